/-
  Numbers that are prime, by a power that comes to all residues (Pratt). No program stands in it.
-/
import Derived.Test.YtcgmcohkkigphaaGreatU1
namespace Vx

theorem rY {α:Type} [DecidableEq α]: ∀ (l m:List α),l.Nodup→(∀ x∈l,x∈m)→l.length≤m.length
 | [],_,_,_=> Nat.zero_le _
 | a::l,m,hn,hs=> by
   have ha:a∈m:=hs a (by simp)
   rw [List.nodup_cons] at hn
   have h:=rY l (m.erase a) hn.2 (fun x hx=> by
    have hne:x≠a:=fun e=> hn.1 (e ▸ hx)
    exact (List.mem_erase_of_ne hne).2 (hs x (by simp [hx])))
   rw [List.length_erase_of_mem ha] at h
   have:0<m.length:=List.length_pos_of_mem ha
   simp only [List.length_cons]
   omega

theorem Su {α:Type} [DecidableEq α] {l m:List α} (hn:l.Nodup) (hs: ∀ x∈l,x∈m) (hl:m.length≤l.length): ∀ x∈m,x∈l:=by
 intro x hx
 apply Classical.byContradiction
 intro hne
 have:=rY (x::l) m (List.nodup_cons.2 ⟨hne,hn⟩) (fun y hy=> by
  rcases List.mem_cons.1 hy with rfl | hy
  · exact hx
  · exact hs y hy)
 simp only [List.length_cons] at this
 omega

theorem Bd {α:Type} [DecidableEq α] (f:Nat→α): ∀ (n:Nat),(∀ i j,i<j→j<n→f i≠f j)→((List.range n).map f).Nodup
 | 0,_=> by simp
 | n+1,h=> by
   rw [List.range_succ,List.map_append]
   refine List.nodup_append.2 ⟨Bd f n (fun i j h1 h2=> h i j h1 (Nat.lt_succ_of_lt h2)),by simp,?_⟩
   intro a ha b hb
   obtain ⟨i,hi,rfl⟩:=List.mem_map.1 ha
   simp only [List.map_cons,List.map_nil,List.mem_singleton] at hb
   subst hb
   exact h i n (List.mem_range.1 hi) (Nat.lt_succ_self n)

theorem agw {m n:Nat} (f:Nat→Nat) (h: ∀ i,i<m→f i<n) (hi: ∀ i j,i<j→j<m→f i≠f j):m≤n:=by
 have:=rY ((List.range m).map f) (List.range n) (Bd f m hi) (fun x hx=> by
  obtain ⟨i,hi,rfl⟩:=List.mem_map.1 hx
  exact List.mem_range.2 (h i (List.mem_range.1 hi)))
 simpa using this

def av (n:Nat):Prop:=1<n∧ ∀ m,m∣n→m=1∨m=n

theorem av.coprime {q m:Nat} (h:av q) (hm: ¬ q∣m):Nat.Coprime m q:=by
 have h1:=h.2 (Nat.gcd m q) (Nat.gcd_dvd_right m q)
 rcases h1 with h1 | h1
 · exact h1
 · exact absurd (h1 ▸ Nat.gcd_dvd_left m q) hm

def O3:List Nat→Nat
 | []=> 1
 | q::l=> q*O3 l

theorem AQ: ∀ {l:List Nat} {m:Nat},(∀ q∈l,av q)→1<m→m∣O3 l→ ∃ q∈l,q∣m
 | [],m,_,h1,h2=> by
   have:m≤1:=Nat.le_of_dvd (by decide) h2
   omega
 | q::l,m,hp,h1,h2=> by
   by_cases h:q∣m
   · exact ⟨q,by simp,h⟩
   · have hc:Nat.Coprime m q:=(hp q (by simp)).coprime h
     obtain ⟨r,hr,hd⟩:=AQ (fun q hq=> hp q (by simp [hq])) h1 (hc.dvd_of_dvd_mul_left h2)
     exact ⟨r,by simp [hr],hd⟩

theorem o9 {a n i:Nat} (h:a^i % n=1) (hn:1<n): ∀ k,a^(i*k) % n=1
 | 0=> by simpa using Nat.mod_eq_of_lt hn
 | k+1=> by
   rw [Nat.mul_succ,Nat.pow_add,Nat.mul_mod,o9 h hn k,h]
   simpa using Nat.mod_eq_of_lt hn

theorem agz {a n:Nat} (hn:1<n): ∀ (i j:Nat),a^i % n=1→a^j % n=1→a^Nat.gcd i j % n=1:=by
 intro i j
 induction i,j using Nat.gcd.induction with
 | H0 j=> intro _ h; simpa using h
 | H1 i j hi ih=>
   intro h1 h2
   rw [Nat.gcd_rec]
   refine ih ?_ h1
   have:a^j=a^(i*(j / i))*a^(j % i):=by rw [← Nat.pow_add,Nat.div_add_mod]
   rw [this,Nat.mul_mod,o9 h1 hn,Nat.one_mul,Nat.mod_mod] at h2
   exact h2

theorem NM {n a:Nat} (hn:1<n) (h1:a^(n - 1) % n=1) (hmin: ∀ i,0<i→i<n - 1→a^i % n≠1):
 ∀ x,0<x→x<n→ ∃ k,k<n - 1∧a^k % n=x:=by
 have hne: ∀ k,k≤n - 1→a^k % n≠0:=by
  intro k hk h0
  have:a^(n - 1)=a^k*a^(n - 1 - k):=by rw [← Nat.pow_add]; congr 1; omega
  rw [this,Nat.mul_mod,h0] at h1
  simp at h1
 have hinj: ∀ i j,i<j→j<n - 1→a^i % n≠a^j % n:=by
  intro i j hij hj he
  refine hmin (j - i) (by omega) (by omega) ?_
  have e1:a^(n - 1)=a^i*a^(n - 1 - i):=by rw [← Nat.pow_add]; congr 1; omega
  have e2:a^(n - 1)*a^(j - i)=a^j*a^(n - 1 - i):=by rw [← Nat.pow_add,← Nat.pow_add]; congr 1; omega
  have e3:a^(n - 1)*a^(j - i) % n=a^(j - i) % n:=by rw [Nat.mul_mod,h1,Nat.one_mul,Nat.mod_mod]
  rw [← e3,e2,Nat.mul_mod,← he,← Nat.mul_mod,← e1,h1]
 have hlen:((List.range (n - 1)).map fun k=> a^k % n).Nodup:=Bd _ _ hinj
 have hfull:=Su (m:=(List.range (n - 1)).map (· +1)) hlen (fun x hx=> by
  obtain ⟨k,hk,rfl⟩:=List.mem_map.1 hx
  have hk:=List.mem_range.1 hk
  have h0:=hne k (by omega)
  have hlt:=Nat.mod_lt (a^k) (by omega:n > 0)
  exact List.mem_map.2 ⟨a^k % n - 1,List.mem_range.2 (by omega),by omega⟩) (by simp)
 intro x hx hlt
 obtain ⟨k,hk,he⟩:=List.mem_map.1 (hfull x (List.mem_map.2 ⟨x - 1,List.mem_range.2 (by omega),by omega⟩))
 exact ⟨k,List.mem_range.1 hk,he⟩

theorem SQ {n a:Nat} {fs:List Nat} (hn:1<n) (hprod:O3 fs=n - 1) (hp: ∀ q∈fs,av q) (h1:a^(n - 1) % n=1)
 (hq: ∀ q∈fs,a^((n - 1) / q) % n≠1): ∀ i,0<i→i<n - 1→a^i % n≠1:=by
 intro i h0 hi he
 have hg:=agz hn i (n - 1) he h1
 have hd:Nat.gcd i (n - 1)∣n - 1:=Nat.gcd_dvd_right _ _
 have hle:Nat.gcd i (n - 1)≤i:=Nat.le_of_dvd h0 (Nat.gcd_dvd_left _ _)
 obtain ⟨m,hm⟩:=hd
 generalize Nat.gcd i (n - 1)=d at*
 have hd0:0<d:=by
  rcases Nat.eq_zero_or_pos d with h | h
  · rw [h,Nat.zero_mul] at hm; omega
  · exact h
 have hm1:1<m:=by
  apply Classical.byContradiction
  intro h
  have:m=0∨m=1:=by omega
  rcases this with rfl | rfl
  · omega
  · omega
 obtain ⟨q,hqm,c,hc⟩:=AQ hp hm1 (hprod ▸ ⟨d,by rw [hm,Nat.mul_comm]⟩)
 refine hq q hqm ?_
 have hq0:0<q:=by have:=(hp q hqm).1; omega
 have:(n - 1) / q=d*c:=by
  rw [hm,hc,Nat.mul_left_comm,Nat.mul_div_cancel_left _ hq0]
 rw [this]
 exact o9 hg hn c

theorem Ib {n a:Nat} (hn:1<n) (h1:a^(n - 1) % n=1) (hf: ∀ x,0<x→x<n→ ∃ k,k<n - 1∧a^k % n=x):av n:=by
 refine ⟨hn,fun m ⟨c,hc⟩=> ?_⟩
 apply Classical.byContradiction
 intro hno
 have hm0:0<m:=by
  rcases Nat.eq_zero_or_pos m with h | h
  · rw [h,Nat.zero_mul] at hc; omega
  · exact h
 have hc0:0<c:=by
  rcases Nat.eq_zero_or_pos c with h | h
  · rw [h,Nat.mul_zero] at hc; omega
  · exact h
 have hm2:2≤m:=by omega
 have hmn:m<n:=by
  have:=Nat.le_of_dvd (by omega) ⟨c,hc⟩
  omega
 have hcn:c<n:=by
  have h3:1*c<m*c:=Nat.mul_lt_mul_of_pos_right (by omega) hc0
  omega
 obtain ⟨k,hk,hx⟩:=hf m hm0 hmn
 have e:a^(n - 1)*c % n=0:=by
  have:a^(n - 1)=a^(n - 1 - k)*a^k:=by rw [← Nat.pow_add]; congr 1; omega
  have h2:a^k*c % n=0:=by rw [Nat.mul_mod,hx,Nat.mul_mod_mod,← hc,Nat.mod_self]
  rw [this,Nat.mul_assoc,Nat.mul_mod,h2,Nat.mul_zero,Nat.zero_mod]
 rw [Nat.mul_mod,h1,Nat.one_mul,Nat.mod_mod,Nat.mod_eq_of_lt hcn] at e
 omega

def ac9 (n:Nat):Nat→Nat→Nat→Nat→Nat
 | 0,_,_,acc=> acc
 | f+1,a,e,acc=> ac9 n f (a*a % n) (e / 2) (bif Nat.beq (e % 2) 1 then acc*a % n else acc)

theorem Ws (n:Nat): ∀ (f a e acc:Nat),e<2^f→ac9 n f a e acc % n=acc*a^e % n
 | 0,a,e,acc,h=> by
   have:e=0:=by simpa using h
   subst this
   simp [ac9]
 | f+1,a,e,acc,h=> by
   unfold ac9
   have h2:e / 2<2^f:=by rw [Nat.pow_succ] at h; omega
   rw [Ws n f _ _ _ h2]
   have hp:(a*a % n)^(e / 2) % n=a^(2*(e / 2)) % n:=by
    rw [← Nat.pow_mod,Nat.pow_mul,Nat.pow_two]
   have hb:e % 2=0∨e % 2=1:=by omega
   rcases hb with hb | hb
   · have he:e=2*(e / 2):=by omega
     rw [hb]
     show acc*(a*a % n)^(e / 2) % n=_
     rw [Nat.mul_mod,hp,← Nat.mul_mod,← he]
   · have he:e=2*(e / 2)+1:=by omega
     rw [hb]
     show acc*a % n*(a*a % n)^(e / 2) % n=_
     rw [Nat.mul_mod,hp,Nat.mod_mod,← Nat.mul_mod]
     conv=> rhs; rw [he]
     rw [Nat.pow_succ,Nat.mul_assoc,Nat.mul_comm a]

def pw (n a e:Nat):Nat:=ac9 n (Nat.log2 e+1) a e 1 % n
theorem Cg (n a e:Nat):pw n a e=a^e % n:=by
 rw [pw,Ws _ _ _ _ _ Nat.lt_log2_self,Nat.one_mul]

def dz (n a:Nat) (fs:List Nat):Bool:=
 Nat.blt 1 n && (Nat.beq (O3 fs) (n - 1) && (Nat.beq (pw n a (n - 1)) 1 && fs.all fun q=> !Nat.beq (pw n a ((n - 1) / q)) 1))

theorem aG {n a:Nat} {fs:List Nat} (h:dz n a fs=true) (hp: ∀ q∈fs,av q):
 1<n∧a^(n - 1) % n=1∧(∀ i,0<i→i<n - 1→a^i % n≠1)∧(∀ x,0<x→x<n→ ∃ k,k<n - 1∧a^k % n=x)∧av n:=by
 unfold dz at h
 simp only [Bool.and_eq_true] at h
 obtain ⟨h1,h2,h3,h4⟩:=h
 rw [Nat.blt_eq] at h1
 have h2:=Nat.eq_of_beq_eq_true h2
 have h3:=Nat.eq_of_beq_eq_true h3
 rw [Cg] at h3
 have h5:=SQ h1 h2 hp h3 (fun q hq=> by
  have:=(List.all_eq_true.1 h4) q hq
  rw [Cg] at this
  intro he
  rw [he] at this
  simp at this)
 have h6:=NM h1 h3 h5
 exact ⟨h1,h3,h5,h6,Ib h1 h3 h6⟩

def Gv (n:Nat):Bool:=Nat.blt 1 n && (List.range n).all fun m=> Nat.ble m 1 || !Nat.beq (n % m) 0
theorem aP {n:Nat} (h:Gv n=true):av n:=by
 unfold Gv at h
 simp only [Bool.and_eq_true] at h
 obtain ⟨h1,h2⟩:=h
 rw [Nat.blt_eq] at h1
 refine ⟨h1,fun m hm=> ?_⟩
 have hle:=Nat.le_of_dvd (by omega) hm
 rcases Nat.lt_or_ge m n with hlt | hge
 · have:=(List.all_eq_true.1 h2) m (List.mem_range.2 hlt)
   rw [Bool.or_eq_true] at this
   rcases this with h3 | h3
   · have:=Nat.le_of_ble_eq_true h3
     rcases Nat.eq_zero_or_pos m with h0 | h0
     · rw [h0] at hm; have:=Nat.eq_zero_of_zero_dvd hm; omega
     · left; omega
   · rw [Nat.mod_eq_zero_of_dvd hm] at h3
     simp at h3
 · right; omega
theorem aM: ∀ q∈([]:List Nat),av q:=fun _ h=> by simp at h
theorem aa {q:Nat} {l:List Nat} (h:av q) (hl: ∀ q∈l,av q): ∀ r∈q::l,av r:=by
 intro r hr
 rcases List.mem_cons.1 hr with rfl | hr
 · exact h
 · exact hl r hr
end Vx

/-
  2^255 - 19 and the order of the group are prime: certificates. Printed by ma2.py. No program stands in it.
-/
namespace Vx

theorem cu:av 2:=aP (by decide+kernel)
theorem jL:av 3:=aP (by decide+kernel)
theorem ah7:av 17:=aP (by decide+kernel)
theorem aj3:av 479:=aP (by decide+kernel)
theorem Rp:dz 32573 2 [2,2,17,479]=true:=by decide+kernel
theorem Yr: ∀ q∈ [2,2,17,479],av q:=(aa cu (aa cu (aa ah7 (aa aj3 aM))))
theorem acU:av 32573:=(aG Rp Yr).2.2.2.2
theorem Rv:dz 65147 2 [2,32573]=true:=by decide+kernel
theorem Yx: ∀ q∈ [2,32573],av q:=(aa cu (aa acU aM))
theorem ac1:av 65147:=(aG Rv Yx).2.2.2.2
theorem aj1:av 353:=aP (by decide+kernel)
theorem alD:av 59:=aP (by decide+kernel)
theorem aj4:av 487:=aP (by decide+kernel)
theorem Ru:dz 57467 2 [2,59,487]=true:=by decide+kernel
theorem Yw: ∀ q∈ [2,59,487],av q:=(aa cu (aa alD (aa aj4 aM)))
theorem ac0:av 57467:=(aG Ru Yw).2.2.2.2
theorem O0:av 7:=aP (by decide+kernel)
theorem ajW:av 131:=aP (by decide+kernel)
theorem M7:dz 132049 26 [2,2,2,2,3,3,7,131]=true:=by decide+kernel
theorem Q6: ∀ q∈ [2,2,2,2,3,3,7,131],av q:=(aa cu (aa cu (aa cu (aa cu (aa jL (aa jL (aa O0 (aa ajW aM))))))))
theorem ZG:av 132049:=(aG M7 Q6).2.2.2.2
theorem acY:av 43:=aP (by decide+kernel)
theorem acS:av 23:=aP (by decide+kernel)
theorem YJ:dz 3727 3 [2,3,3,3,3,23]=true:=by decide+kernel
theorem aaO: ∀ q∈ [2,3,3,3,3,23],av q:=(aa cu (aa jL (aa jL (aa jL (aa jL (aa acS aM))))))
theorem agF:av 3727:=(aG YJ aaO).2.2.2.2
theorem Kn:dz 1923133 2 [2,2,3,43,3727]=true:=by decide+kernel
theorem MS: ∀ q∈ [2,2,3,43,3727],av q:=(aa cu (aa cu (aa jL (aa acY (aa agF aM)))))
theorem S9:av 1923133:=(aG Kn MS).2.2.2.2
theorem alB:av 31:=aP (by decide+kernel)
theorem ajU:av 107:=aP (by decide+kernel)
theorem ajY:av 223:=aP (by decide+kernel)
theorem ajX:av 173:=aP (by decide+kernel)
theorem YL:dz 4153 5 [2,2,2,3,173]=true:=by decide+kernel
theorem aaQ: ∀ q∈ [2,2,2,3,173],av q:=(aa cu (aa cu (aa cu (aa jL (aa ajX aM)))))
theorem agH:av 4153:=(aG YL aaQ).2.2.2.2
theorem CK:av 5:=aP (by decide+kernel)
theorem Wl:av 1723:=aP (by decide+kernel)
theorem Nb:dz 430751 17 [2,5,5,5,1723]=true:=by decide+kernel
theorem Ra: ∀ q∈ [2,5,5,5,1723],av q:=(aa cu (aa CK (aa CK (aa CK (aa Wl aM)))))
theorem ZK:av 430751:=(aG Nb Ra).2.2.2.2
theorem rA:dz 31757755568855353 10 [2,2,2,3,31,107,223,4153,430751]=true:=by decide+kernel
theorem sW: ∀ q∈ [2,2,2,3,31,107,223,4153,430751],av q:=(aa cu (aa cu (aa cu (aa jL (aa alB (aa ajU (aa ajY (aa agH (aa ZK aM)))))))))
theorem uO:av 31757755568855353:=(aG rA sW).2.2.2.2
theorem ah8:av 19:=aP (by decide+kernel)
theorem alG:av 83:=aP (by decide+kernel)
theorem YN:dz 9463 3 [2,3,19,83]=true:=by decide+kernel
theorem aaS: ∀ q∈ [2,3,19,83],av q:=(aa cu (aa jL (aa ah8 (aa alG aM))))
theorem agJ:av 9463:=(aG YN aaS).2.2.2.2
theorem Rs:dz 37853 2 [2,2,9463]=true:=by decide+kernel
theorem Yu: ∀ q∈ [2,2,9463],av q:=(aa cu (aa cu (aa agJ aM)))
theorem acW:av 37853:=(aG Rs Yu).2.2.2.2
theorem Rw:dz 75707 2 [2,37853]=true:=by decide+kernel
theorem Yy: ∀ q∈ [2,37853],av q:=(aa cu (aa acW aM))
theorem ac2:av 75707:=(aG Rw Yy).2.2.2.2
theorem acP:av 13:=aP (by decide+kernel)
theorem agB:av 2437:=aP (by decide+kernel)
theorem alH:av 97:=aP (by decide+kernel)
theorem aj2:av 419:=aP (by decide+kernel)
theorem Nf:dz 569003 2 [2,7,97,419]=true:=by decide+kernel
theorem Rc: ∀ q∈ [2,7,97,419],av q:=(aa cu (aa O0 (aa alH (aa aj2 aM))))
theorem ZM:av 569003:=(aG Nf Rc).2.2.2.2
theorem Cw:dz 2773320623 5 [2,2437,569003]=true:=by decide+kernel
theorem DT: ∀ q∈ [2,2437,569003],av q:=(aa cu (aa agB (aa ZM aM)))
theorem Ia:av 2773320623:=(aG Cw DT).2.2.2.2
theorem AB:dz 72106336199 7 [2,13,2773320623]=true:=by decide+kernel
theorem Cv: ∀ q∈ [2,13,2773320623],av q:=(aa cu (aa acP (aa Ia aM)))
theorem FT:av 72106336199:=(aG AB Cv).2.2.2.2
theorem acZ:av 47:=aP (by decide+kernel)
theorem ajV:av 127:=aP (by decide+kernel)
theorem ajT:av 103:=aP (by decide+kernel)
theorem aj5:av 991:=aP (by decide+kernel)
theorem Ko:dz 8574133 2 [2,2,3,7,103,991]=true:=by decide+kernel
theorem MU: ∀ q∈ [2,2,3,7,103,991],av q:=(aa cu (aa cu (aa jL (aa O0 (aa ajT (aa aj5 aM))))))
theorem Ta:av 8574133:=(aG Ko MU).2.2.2.2
theorem tq:dz 1919519569386763 2 [2,3,7,19,47,47,127,8574133]=true:=by decide+kernel
theorem tQ: ∀ q∈ [2,3,7,19,47,47,127,8574133],av q:=(aa cu (aa jL (aa O0 (aa ah8 (aa acZ (aa acZ (aa ajV (aa Ta aM))))))))
theorem wQ:av 1919519569386763:=(aG tq tQ).2.2.2.2
theorem iN:dz 75445702479781427272750846543864801 7 [2,2,2,2,2,3,3,5,5,75707,72106336199,1919519569386763]=true:=by decide+kernel
theorem iW: ∀ q∈ [2,2,2,2,2,3,3,5,5,75707,72106336199,1919519569386763],av q:=(aa cu (aa cu (aa cu (aa cu (aa cu (aa jL (aa jL (aa CK (aa CK (aa ac2 (aa FT (aa wQ aM))))))))))))
theorem jg:av 75445702479781427272750846543864801:=(aG iN iW).2.2.2.2
theorem dn:dz 74058212732561358302231226437062788676166966415465897661863160754340907 2 [2,3,353,57467,132049,1923133,31757755568855353,75445702479781427272750846543864801]=true:=by decide+kernel
theorem dA: ∀ q∈ [2,3,353,57467,132049,1923133,31757755568855353,75445702479781427272750846543864801],av q:=(aa cu (aa jL (aa aj1 (aa ac0 (aa ZG (aa S9 (aa uO (aa jg aM))))))))
theorem dD:av 74058212732561358302231226437062788676166966415465897661863160754340907:=(aG dn dA).2.2.2.2
theorem bu:dz 57896044618658097711785492504343953926634992332820282019728792003956564819949 2 [2,2,3,65147,74058212732561358302231226437062788676166966415465897661863160754340907]=true:=by decide+kernel
theorem bA: ∀ q∈ [2,2,3,65147,74058212732561358302231226437062788676166966415465897661863160754340907],av q:=(aa cu (aa cu (aa jL (aa ac1 (aa dD aM)))))
theorem cZ:av 57896044618658097711785492504343953926634992332820282019728792003956564819949:=(aG bu bA).2.2.2.2
theorem OX:av 11:=aP (by decide+kernel)
theorem Rq:dz 34123 2 [2,3,11,11,47]=true:=by decide+kernel
theorem Yt: ∀ q∈ [2,3,11,11,47],av q:=(aa cu (aa jL (aa OX (aa OX (aa acZ aM)))))
theorem acV:av 34123:=(aG Rq Yt).2.2.2.2
theorem Na:dz 409477 2 [2,2,3,34123]=true:=by decide+kernel
theorem Q9: ∀ q∈ [2,2,3,34123],av q:=(aa cu (aa cu (aa jL (aa acV aM))))
theorem ZJ:av 409477:=(aG Na Q9).2.2.2.2
theorem G9:dz 14741173 2 [2,2,3,3,409477]=true:=by decide+kernel
theorem J9: ∀ q∈ [2,2,3,3,409477],av q:=(aa cu (aa cu (aa jL (aa jL (aa ZJ aM)))))
theorem OY:av 14741173:=(aG G9 J9).2.2.2.2
theorem Ha:dz 58964693 2 [2,2,14741173]=true:=by decide+kernel
theorem Ka: ∀ q∈ [2,2,14741173],av q:=(aa cu (aa cu (aa OY aM)))
theorem OZ:av 58964693:=(aG Ha Ka).2.2.2.2
theorem Ro:dz 30703 3 [2,3,7,17,43]=true:=by decide+kernel
theorem Yq: ∀ q∈ [2,3,7,17,43],av q:=(aa cu (aa jL (aa O0 (aa ah7 (aa acY aM)))))
theorem acT:av 30703:=(aG Ro Yq).2.2.2.2
theorem alF:av 79:=aP (by decide+kernel)
theorem Rt:dz 41081 3 [2,2,2,5,13,79]=true:=by decide+kernel
theorem Yv: ∀ q∈ [2,2,2,5,13,79],av q:=(aa cu (aa cu (aa cu (aa CK (aa acP (aa alF aM))))))
theorem acX:av 41081:=(aG Rt Yv).2.2.2.2
theorem Rx:dz 82163 2 [2,41081]=true:=by decide+kernel
theorem Yz: ∀ q∈ [2,41081],av q:=(aa cu (aa acX aM))
theorem ac3:av 82163:=(aG Rx Yz).2.2.2.2
theorem alE:av 67:=aP (by decide+kernel)
theorem Rn:dz 22111 6 [2,3,5,11,67]=true:=by decide+kernel
theorem Yp: ∀ q∈ [2,3,5,11,67],av q:=(aa cu (aa jL (aa CK (aa OX (aa alE aM)))))
theorem acR:av 22111:=(aG Rn Yp).2.2.2.2
theorem M8:dz 132667 5 [2,3,22111]=true:=by decide+kernel
theorem Q7: ∀ q∈ [2,3,22111],av q:=(aa cu (aa jL (aa acR aM)))
theorem ZH:av 132667:=(aG M8 Q7).2.2.2.2
theorem Rm:dz 17231 13 [2,5,1723]=true:=by decide+kernel
theorem Yo: ∀ q∈ [2,5,1723],av q:=(aa cu (aa CK (aa Wl aM)))
theorem acQ:av 17231:=(aG Rm Yo).2.2.2.2
theorem M9:dz 137849 3 [2,2,2,17231]=true:=by decide+kernel
theorem Q8: ∀ q∈ [2,2,2,17231],av q:=(aa cu (aa cu (aa cu (aa acQ aM))))
theorem ZI:av 137849:=(aG M9 Q8).2.2.2.2
theorem mY:dz 3044861653679985063343 5 [2,3,11,30703,82163,132667,137849]=true:=by decide+kernel
theorem nQ: ∀ q∈ [2,3,11,30703,82163,132667,137849],av q:=(aa cu (aa jL (aa OX (aa acT (aa ac3 (aa ZH (aa ZI aM)))))))
theorem oI:av 3044861653679985063343:=(aG mY nQ).2.2.2.2
theorem iY:dz 198211423230930754013084525763697 5 [2,2,2,2,3,23,58964693,3044861653679985063343]=true:=by decide+kernel
theorem jo: ∀ q∈ [2,2,2,2,3,23,58964693,3044861653679985063343],av q:=(aa cu (aa cu (aa cu (aa cu (aa jL (aa acS (aa OZ (aa oI aM))))))))
theorem jE:av 198211423230930754013084525763697:=(aG iY jo).2.2.2.2
theorem ajZ:av 269:=aP (by decide+kernel)
theorem ah9:av 73:=aP (by decide+kernel)
theorem aj0:av 307:=aP (by decide+kernel)
theorem agE:av 2939:=aP (by decide+kernel)
theorem YM:dz 5879 11 [2,2939]=true:=by decide+kernel
theorem aaR: ∀ q∈ [2,2939],av q:=(aa cu (aa agE aM))
theorem agI:av 5879:=(aG YM aaR).2.2.2.2
theorem Ed:dz 292386187 2 [2,3,3,3,3,307,5879]=true:=by decide+kernel
theorem G7: ∀ q∈ [2,3,3,3,3,307,5879],av q:=(aa cu (aa jL (aa jL (aa jL (aa jL (aa aj0 (aa agI aM)))))))
theorem LK:av 292386187:=(aG Ed G7).2.2.2.2
theorem yR:dz 213441916511 13 [2,5,73,292386187]=true:=by decide+kernel
theorem Az: ∀ q∈ [2,5,73,292386187],av q:=(aa cu (aa CK (aa ah9 (aa LK aM))))
theorem CJ:av 213441916511:=(aG yR Az).2.2.2.2
theorem agA:av 1361:=aP (by decide+kernel)
theorem agD:av 2851:=aP (by decide+kernel)
theorem alC:av 41:=aP (by decide+kernel)
theorem YK:dz 3797 2 [2,2,13,73]=true:=by decide+kernel
theorem aaP: ∀ q∈ [2,2,13,73],av q:=(aa cu (aa cu (aa acP (aa ah9 aM))))
theorem agG:av 3797:=(aG YK aaP).2.2.2.2
theorem Nc:dz 531581 2 [2,2,5,7,3797]=true:=by decide+kernel
theorem Rb: ∀ q∈ [2,2,5,7,3797],av q:=(aa cu (aa cu (aa CK (aa O0 (aa agG aM)))))
theorem ZL:av 531581:=(aG Nc Rb).2.2.2.2
theorem agC:av 2551:=aP (by decide+kernel)
theorem Km:dz 1224481 13 [2,2,2,2,2,3,5,2551]=true:=by decide+kernel
theorem MR: ∀ q∈ [2,2,2,2,2,3,5,2551],av q:=(aa cu (aa cu (aa cu (aa cu (aa cu (aa jL (aa CK (aa agC aM))))))))
theorem SY:av 1224481:=(aG Km MR).2.2.2.2
theorem sZ:dz 1257559732178653 2 [2,2,3,7,23,531581,1224481]=true:=by decide+kernel
theorem tO: ∀ q∈ [2,2,3,7,23,531581,1224481],av q:=(aa cu (aa cu (aa jL (aa O0 (aa acS (aa ZL (aa SY aM)))))))
theorem wP:av 1257559732178653:=(aG sZ tO).2.2.2.2
theorem pJ:dz 4434155615661930479 17 [2,41,43,1257559732178653]=true:=by decide+kernel
theorem qg: ∀ q∈ [2,41,43,1257559732178653],av q:=(aa cu (aa alC (aa acY (aa wP aM))))
theorem sj:av 4434155615661930479:=(aG pJ qg).2.2.2.2
theorem kG:dz 172054593956031949258510691 2 [2,5,1361,2851,4434155615661930479]=true:=by decide+kernel
theorem lg: ∀ q∈ [2,5,1361,2851,4434155615661930479],av q:=(aa cu (aa CK (aa agA (aa agD (aa sj aM)))))
theorem lM:av 172054593956031949258510691:=(aG kG lg).2.2.2.2
theorem gD:dz 19757330305831588566944191468367130476339 2 [2,269,213441916511,172054593956031949258510691]=true:=by decide+kernel
theorem gJ: ∀ q∈ [2,269,213441916511,172054593956031949258510691],av q:=(aa cu (aa ajZ (aa CJ (aa lM aM))))
theorem ic:av 19757330305831588566944191468367130476339:=(aG gD gJ).2.2.2.2
theorem gm:dz 276602624281642239937218680557139826668747 2 [2,7,19757330305831588566944191468367130476339]=true:=by decide+kernel
theorem gB: ∀ q∈ [2,7,19757330305831588566944191468367130476339],av q:=(aa cu (aa O0 (aa ic aM)))
theorem gK:av 276602624281642239937218680557139826668747:=(aG gm gB).2.2.2.2
theorem bB:dz 7237005577332262213973186563042994240857116359379907606001950938285454250989 2 [2,2,3,11,198211423230930754013084525763697,276602624281642239937218680557139826668747]=true:=by decide+kernel
theorem bC: ∀ q∈ [2,2,3,11,198211423230930754013084525763697,276602624281642239937218680557139826668747],av q:=(aa cu (aa cu (aa jL (aa OX (aa jE (aa gK aM))))))
theorem df:av 7237005577332262213973186563042994240857116359379907606001950938285454250989:=(aG bB bC).2.2.2.2
end Vx

/-
  The field of 2^255 - 19: products that are 0, inverses, squares, roots. No program stands in it.
-/
namespace Vx

theorem agL:av pP:=cZ
instance neP:NeZero pP:=⟨by decide⟩
abbrev K:=Fin pP

theorem K.ext {a b:K} (h:a.val=b.val):a=b:=Fin.ext h
theorem K.Lj (a b:K):(a*b).val=a.val*b.val % pP:=Fin.val_mul a b
theorem K.UB (a b:K):(a+b).val=(a.val+b.val) % pP:=Fin.val_add a b
theorem K.nC (a:K): ∀ n:Nat,(a^n).val=a.val^n % pP
 | 0=> rfl
 | n+1=> by
   rw [show a^(n+1)=a^n*a from rfl,K.Lj,K.nC a n,Nat.pow_succ,Nat.mod_mul_mod]
theorem K.pow_succ (a:K) (n:Nat):a^(n+1)=a^n*a:=rfl
theorem K.pow_add (a:K) (m:Nat): ∀ n:Nat,a^(m+n)=a^m*a^n
 | 0=> by
   have:a^0=(1:K):=rfl
   rw [Nat.add_zero,this]; grind
 | n+1=> by
   have h1:a^(m+(n+1))=a^(m+n)*a:=rfl
   have h2:a^(n+1)=a^n*a:=rfl
   rw [h1,h2,K.pow_add a m n]; grind
theorem K.pow_mul (a:K) (m:Nat): ∀ n:Nat,a^(m*n)=(a^m)^n
 | 0=> rfl
 | n+1=> by
   have h2:(a^m)^(n+1)=(a^m)^n*a^m:=rfl
   rw [Nat.mul_succ,K.pow_add,K.pow_mul a m n,h2]
theorem K.mul_pow (a b:K): ∀ n:Nat,(a*b)^n=a^n*b^n
 | 0=> by
   have: ∀ c:K,c^0=(1:K):=fun _=> rfl
   rw [this,this,this]; grind
 | n+1=> by
   have h: ∀ c:K,c^(n+1)=c^n*c:=fun _=> rfl
   rw [h,h,h,K.mul_pow a b n]; grind
theorem K.one_pow: ∀ n:Nat,(1:K)^n=1
 | 0=> rfl
 | n+1=> by
   have h:(1:K)^(n+1)=1^n*1:=rfl
   rw [h,K.one_pow n]; grind

theorem K.dh {a b:K} (h:a*b=0):a=0∨b=0:=by
 have h1:a.val*b.val % pP=0:=by rw [← K.Lj,h]; rfl
 have h2:pP∣a.val*b.val:=Nat.dvd_of_mod_eq_zero h1
 by_cases hd:pP∣a.val
 · left
   apply K.ext
   rcases Nat.eq_zero_or_pos a.val with h0 | h0
   · exact h0
   · have:=Nat.le_of_dvd h0 hd
     have:=a.isLt
     omega
 · right
   have hc:Nat.Coprime pP a.val:=(agL.coprime hd).symm
   have hb:=hc.dvd_of_dvd_mul_left h2
   apply K.ext
   rcases Nat.eq_zero_or_pos b.val with h0 | h0
   · exact h0
   · have:=Nat.le_of_dvd h0 hb
     have:=b.isLt
     omega
theorem K.aZ {a b:K} (ha:a≠0) (hb:b≠0):a*b≠0:=fun h=> (K.dh h).elim ha hb
theorem K.cancel {a b c:K} (hc:c≠0) (h:a*c=b*c):a=b:=by
 have:(a - b)*c=0:=by grind
 rcases K.dh this with h | h
 · grind
 · exact absurd h hc
theorem K.Cq {a b:K} (h:a*a=b*b):a=b∨a= -b:=by
 have:(a - b)*(a+b)=0:=by grind
 rcases K.dh this with h | h
 · left; grind
 · right; grind

theorem ae8: ∀ x,0<x→x<pP→ ∃ k,k<pP - 1∧2^k % pP=x:=(aG bu bA).2.2.2.1
theorem K.gen {a:K} (h:a≠0): ∃ k,k<pP - 1∧a=(2:K)^k:=by
 have h0:a.val≠0:=fun e=> h (K.ext e)
 obtain ⟨k,hk,he⟩:=ae8 a.val (by omega) a.isLt
 exact ⟨k,hk,K.ext (by rw [K.nC,← he]; rfl)⟩
theorem K.ahh:(2:K)^(pP - 1)=1:=by
 apply K.ext
 rw [K.nC,← Cg]
 decide+kernel
theorem K.RV {a:K} (h:a≠0):a^(pP - 1)=1:=by
 obtain ⟨k,_,rfl⟩:=K.gen h
 rw [← K.pow_mul,Nat.mul_comm,K.pow_mul,K.ahh,K.one_pow]
theorem K.inv_mul {a:K} (h:a≠0):a*a^(pP - 2)=1:=by
 have h1:a^(pP - 1)=a^(pP - 2)*a:=by
  have:pP - 1=(pP - 2)+1:=by decide
  rw [this,K.pow_succ]
 have h2:=K.RV h
 generalize a^(pP - 2)=b at*
 generalize a^(pP - 1)=c at*
 grind
theorem K.jf:(1:K)≠0:=by decide
theorem K.yA:(2:K)≠0:=by decide

def Sq (a:K):Prop:= ∃ b:K,b*b=a
def hP:Nat:=28948022309329048855892746252171976963317496166410141009864396001978282409974
theorem K.abH:(2:K)^hP= -1:=by
 apply K.ext
 rw [K.nC,← Cg]
 decide+kernel
def kI:K:=19681161376707505956807079304988542015446066515923890162744021073123829784752
theorem oQ:kI*kI= -1:=by decide+kernel
theorem VE:kI≠0:=by decide+kernel

theorem K.FR {a:K} (h:a≠0):a^hP=1∨a^hP= -1:=by
 have h1:a^hP*a^hP=1*1:=by
  rw [← K.pow_add]
  have:hP+hP=pP - 1:=by decide+kernel
  rw [this,K.RV h]; grind
 rcases K.Cq h1 with h | h
 · exact .inl h
 · exact .inr h
theorem K.FN:(1:K)≠ -1:=by decide+kernel
theorem K.Vj (a:K) (k:Nat):a^(2*k)=a^k*a^k:=by rw [Nat.two_mul,K.pow_add]
theorem Sq.iff {a:K} (h:a≠0):Sq a↔a^hP=1:=by
 constructor
 · rintro ⟨b,rfl⟩
   have hb:b≠0:=fun e=> h (by rw [e]; decide)
   rw [K.mul_pow,← K.pow_add]
   have:hP+hP=pP - 1:=by decide+kernel
   rw [this,K.RV hb]
 · intro h1
   obtain ⟨k,hk,rfl⟩:=K.gen h
   have hb:k % 2=0∨k % 2=1:=by omega
   rcases hb with hb | hb
   · refine ⟨(2:K)^(k / 2),?_⟩
     have e:2*(k / 2)=k:=by omega
     rw [← K.Vj,e]
   · exfalso
     rw [← K.pow_mul,Nat.mul_comm,K.pow_mul,K.abH] at h1
     have e:k=2*(k / 2)+1:=by omega
     rw [e,K.pow_add,K.Vj,← K.mul_pow] at h1
     have e2:(-1:K)* -1=1:=by grind
     have e3:(-1:K)^1= -1:=by decide+kernel
     rw [e2,K.one_pow,e3] at h1
     exact K.FN (by grind)
theorem Sq.zero:Sq 0:=⟨0,by decide⟩
theorem Sq.one:Sq 1:=⟨1,by decide⟩
theorem Sq.agk:Sq (-1):=⟨kI,oQ⟩
theorem Sq.mul {a b:K} (ha:Sq a) (hb:Sq b):Sq (a*b):=by
 obtain ⟨x,rfl⟩:=ha
 obtain ⟨y,rfl⟩:=hb
 exact ⟨x*y,by grind⟩
theorem Sq.neg {a:K} (ha:Sq a):Sq (-a):=by
 have:=Sq.mul ha Sq.agk
 have e:a* -1= -a:=by grind
 rwa [e] at this
theorem Sq.Fx {a b:K} (ha:a≠0) (hs:Sq a) (h:Sq (a*b)):Sq b:=by
 obtain ⟨x,hx⟩:=hs
 obtain ⟨y,hy⟩:=h
 have hx0:x≠0:=fun e=> ha (by rw [← hx,e]; decide)
 have hi:=K.inv_mul hx0
 generalize x^(pP - 2)=z at hi
 exact ⟨y*z,by grind⟩
theorem Sq.r9 {a b:K} (hb:b≠0) (hs:Sq b) (h:Sq (a*b)):Sq a:=Sq.Fx hb hs (by
 have e:b*a=a*b:=by grind
 rwa [e])
theorem Sq.both {a b:K} (ha: ¬ Sq a) (hb: ¬ Sq b):Sq (a*b):=by
 have ha0:a≠0:=fun e=> ha (e ▸ Sq.zero)
 have hb0:b≠0:=fun e=> hb (e ▸ Sq.zero)
 rw [Sq.iff (K.aZ ha0 hb0),K.mul_pow]
 have h1:=(K.FR ha0).resolve_left fun h=> ha ((Sq.iff ha0).2 h)
 have h2:=(K.FR hb0).resolve_left fun h=> hb ((Sq.iff hb0).2 h)
 rw [h1,h2]; grind
theorem Sv {a:K} (h:a^hP= -1) (h0:a≠0): ¬ Sq a:=fun hs=> by
 have:=(Sq.iff h0).1 hs
 rw [this] at h
 exact K.FN h
theorem Zf: ¬ Sq kI:=by
 refine Sv ?_ VE
 apply K.ext
 rw [K.nC,← Cg]
 decide+kernel

def K.odd (a:K):Bool:=a.val % 2==1
theorem K.VM {a:K} (h:a≠0):(-a).val=pP - a.val:=by
 have h0:a.val≠0:=fun e=> h (K.ext e)
 have h1:(-a+a).val=0:=by
  have: -a+a=0:=by grind
  rw [this]; rfl
 rw [K.UB] at h1
 have h2:=a.isLt
 have h3:=(-a).isLt
 have h4:(-a).val+a.val<2*pP:=by omega
 rcases Nat.lt_or_ge ((-a).val+a.val) pP with h5 | h5
 · rw [Nat.mod_eq_of_lt h5] at h1; omega
 · rw [Nat.mod_eq_sub_mod h5,Nat.mod_eq_of_lt (by omega)] at h1; omega
theorem ajS:pP % 2=1:=by decide+kernel
theorem K.zx {a:K} (h:a≠0):(-a).odd= !a.odd:=by
 unfold K.odd
 rw [K.VM h]
 have:=a.isLt
 have h2:=ajS
 rcases Nat.mod_two_eq_zero_or_one a.val with h1 | h1
 · rw [h1,show (pP - a.val) % 2=1 by omega]; rfl
 · rw [h1,show (pP - a.val) % 2=0 by omega]; rfl
def K.abs (a:K):K:=if a.odd then -a else a
theorem K.Ox:(0:K).odd=false:=rfl
theorem K.rf (a:K):a.abs.odd=false:=by
 unfold K.abs
 by_cases h:a.odd=true
 · rw [if_pos h]
   have h0:a≠0:=fun e=> by rw [e] at h; exact absurd h (by decide)
   rw [K.zx h0,h]; rfl
 · rw [if_neg h]; simpa using h
theorem K.ai0 (a:K):a.abs=a∨a.abs= -a:=by
 unfold K.abs
 by_cases h:a.odd=true
 · rw [if_pos h]; exact .inr rfl
 · rw [if_neg h]; exact .inl rfl
theorem K.tL (a:K):a.abs*a.abs=a*a:=by
 rcases K.ai0 a with h | h<;> rw [h]
 grind
theorem K.jc {a b:K} (ha:a.odd=false) (hb:b.odd=false) (h:a*a=b*b):a=b:=by
 rcases K.Cq h with h | h
 · exact h
 · by_cases h0:b=0
   · rw [h,h0]; decide
   · rw [h,K.zx h0,hb] at ha; cases ha
end Vx

/-
  The curve: points, their sum, that it is a group. No program stands in it.
-/
namespace Vx

def kD:K:=37095705934669439343138083508754565189542113879843219016388785533085940283555
theorem aln:kD≠0:=by decide+kernel
theorem nJ: ¬ Sq kD:=by
 refine Sv ?_ aln
 apply K.ext
 rw [K.nC,← Cg]
 decide+kernel

theorem JL {d w z:K} (hz:z≠0) (h:d*(z*z)=w*w):Sq d:=by
 have hi:=K.inv_mul hz
 generalize z^(pP - 2)=u at hi
 exact ⟨w*u,by grind⟩

structure E where
 x:K
 y:K
 on:y*y - x*x=1+kD*x*x*y*y

theorem E.ext {P Q:E} (hx:P.x=Q.x) (hy:P.y=Q.y):P=Q:=by
 cases P; cases Q; simp_all

theorem YP {d i x1 y1 x2 y2 m:K} (hd: ¬ Sq d) (hi:i*i= -1) (h1:y1*y1 - x1*x1=1+d*x1*x1*y1*y1) (h2:y2*y2 - x2*x2=1+d*x2*x2*y2*y2)
 (hm:m=d*x1*x2*y1*y2):m*m≠1:=by
 intro h
 have e1:d*((x1*y1*(i*x2+y2))*(x1*y1*(i*x2+y2)))=(i*x1+m*y1)*(i*x1+m*y1):=by grind
 have e2:d*((x1*y1*(i*x2 - y2))*(x1*y1*(i*x2 - y2)))=(i*x1 - m*y1)*(i*x1 - m*y1):=by grind
 have hne: ∀ z:K,z=0→m=m*z→False:=by
  intro z hz hmz
  have:m=0:=by rw [hz] at hmz; grind
  rw [this] at h
  exact K.jf (by grind)
 have hx1:x1≠0:=fun e=> by
  have:m=0:=by rw [hm,e]; grind
  rw [this] at h; exact K.jf (by grind)
 have hy1:y1≠0:=fun e=> by
  have:m=0:=by rw [hm,e]; grind
  rw [this] at h; exact K.jf (by grind)
 have hy2:y2≠0:=fun e=> by
  have:m=0:=by rw [hm,e]; grind
  rw [this] at h; exact K.jf (by grind)
 by_cases ha:i*x2+y2=0
 · by_cases hb:i*x2 - y2=0
   · have:2*y2=0:=by grind
     rcases K.dh this with h | h
     · exact K.yA h
     · exact hy2 h
   · exact hd (JL (K.aZ (K.aZ hx1 hy1) hb) e2)
 · exact hd (JL (K.aZ (K.aZ hx1 hy1) ha) e1)

def E.m (P Q:E):K:=kD*P.x*Q.x*P.y*Q.y
theorem E.den (P Q:E):1+P.m Q≠0∧1 - P.m Q≠0:=by
 have h:=YP nJ oQ P.on Q.on (m:=P.m Q) rfl
 exact ⟨fun e=> h (by grind),fun e=> h (by grind)⟩

def ik (a:K):K:=a^(pP - 2)
theorem mh {a:K} (h:a≠0):a*ik a=1:=K.inv_mul h

theorem closed {d x1 y1 x2 y2 u v:K} (h1:y1*y1 - x1*x1=1+d*x1*x1*y1*y1) (h2:y2*y2 - x2*x2=1+d*x2*x2*y2*y2)
 (hu:(1+d*x1*x2*y1*y2)*u=1) (hv:(1 - d*x1*x2*y1*y2)*v=1):
 ((y1*y2+x1*x2)*v)*((y1*y2+x1*x2)*v) - ((x1*y2+x2*y1)*u)*((x1*y2+x2*y1)*u)=
   1+d*((x1*y2+x2*y1)*u)*((x1*y2+x2*y1)*u)*((y1*y2+x1*x2)*v)*((y1*y2+x1*x2)*v):=by
 have key:(y1*y2+x1*x2)*(y1*y2+x1*x2)*((1+d*x1*x2*y1*y2)*(1+d*x1*x2*y1*y2)) - (x1*y2+x2*y1)*(x1*y2+x2*y1)*((1 - d*x1*x2*y1*y2)*(1 - d*x1*x2*y1*y2))=
  (1+d*x1*x2*y1*y2)*(1+d*x1*x2*y1*y2)*((1 - d*x1*x2*y1*y2)*(1 - d*x1*x2*y1*y2))+d*((x1*y2+x2*y1)*(x1*y2+x2*y1))*((y1*y2+x1*x2)*(y1*y2+x1*x2)):=by grind
 generalize 1+d*x1*x2*y1*y2=B at*
 generalize 1 - d*x1*x2*y1*y2=D at*
 generalize x1*y2+x2*y1=A at*
 generalize y1*y2+x1*x2=C at*
 clear h1 h2
 grind

def E.add (P Q:E):E where
 x:=(P.x*Q.y+Q.x*P.y)*ik (1+P.m Q)
 y:=(P.y*Q.y+P.x*Q.x)*ik (1 - P.m Q)
 on:=closed P.on Q.on (mh (P.den Q).1) (mh (P.den Q).2)
instance:Add E:=⟨E.add⟩
theorem E.wT (P Q:E):(P+Q).x*(1+P.m Q)=P.x*Q.y+Q.x*P.y:=by
 have h:=mh (P.den Q).1
 show (P.x*Q.y+Q.x*P.y)*ik (1+P.m Q)*(1+P.m Q)=_
 generalize ik (1+P.m Q)=u at*
 grind
theorem E.yK (P Q:E):(P+Q).y*(1 - P.m Q)=P.y*Q.y+P.x*Q.x:=by
 have h:=mh (P.den Q).2
 show (P.y*Q.y+P.x*Q.x)*ik (1 - P.m Q)*(1 - P.m Q)=_
 generalize ik (1 - P.m Q)=u at*
 grind
theorem E.Ey {P Q R:E} (hx:R.x*(1+P.m Q)=P.x*Q.y+Q.x*P.y) (hy:R.y*(1 - P.m Q)=P.y*Q.y+P.x*Q.x):R=P+Q:=
 E.ext (K.cancel (P.den Q).1 (hx.trans (E.wT P Q).symm)) (K.cancel (P.den Q).2 (hy.trans (E.yK P Q).symm))

def E.zero:E:=⟨0,1,by decide+kernel⟩
instance:Zero E:=⟨E.zero⟩
theorem E.Uv:(0:E).x=0:=rfl
theorem E.Uw:(0:E).y=1:=rfl
def E.neg (P:E):E:=⟨-P.x,P.y,by have:=P.on; grind⟩
instance:Neg E:=⟨E.neg⟩
theorem E.VN (P:E):(-P).x= -P.x:=rfl
theorem E.ab4 (P:E):(-P).y=P.y:=rfl

theorem E.add_comm (P Q:E):P+Q=Q+P:=by
 refine E.Ey ?_ ?_
 · have h:=E.wT P Q
   unfold E.m at*
   grind
 · have h:=E.yK P Q
   unfold E.m at*
   grind
theorem E.add_zero (P:E):P+0=P:=by
 refine (E.Ey ?_ ?_).symm
 · unfold E.m; rw [E.Uv,E.Uw]; grind
 · unfold E.m; rw [E.Uv,E.Uw]; grind
theorem E.zero_add (P:E):0+P=P:=by rw [E.add_comm,E.add_zero]
theorem E.add_neg (P:E):P+ -P=0:=by
 refine (E.Ey ?_ ?_).symm
 · unfold E.m; rw [E.Uv,E.VN,E.ab4]; grind
 · have:=P.on
   unfold E.m; rw [E.Uw,E.VN,E.ab4]; grind

theorem afy {d x1 y1 x2 y2 x3 y3:K} (h1:y1*y1 - x1*x1=1+d*x1*x1*y1*y1) (h2:y2*y2 - x2*x2=1+d*x2*x2*y2*y2) (h3:y3*y3 - x3*x3=1+d*x3*x3*y3*y3):
 ((x1*y2+x2*y1)*(1 - d*x1*x2*y1*y2)*y3+(y1*y2+x1*x2)*(1+d*x1*x2*y1*y2)*x3)*((1+d*x2*x3*y2*y3)*(1 - d*x2*x3*y2*y3)+d*(x2*y3+x3*y2)*(y2*y3+x2*x3)*x1*y1)=
 ((x2*y3+x3*y2)*(1 - d*x2*x3*y2*y3)*y1+(y2*y3+x2*x3)*(1+d*x2*x3*y2*y3)*x1)*((1+d*x1*x2*y1*y2)*(1 - d*x1*x2*y1*y2)+d*(x1*y2+x2*y1)*(y1*y2+x1*x2)*x3*y3):=by
 grind
theorem afz {d x1 y1 x2 y2 x3 y3:K} (h1:y1*y1 - x1*x1=1+d*x1*x1*y1*y1) (h2:y2*y2 - x2*x2=1+d*x2*x2*y2*y2) (h3:y3*y3 - x3*x3=1+d*x3*x3*y3*y3):
 ((y1*y2+x1*x2)*(1+d*x1*x2*y1*y2)*y3+(x1*y2+x2*y1)*(1 - d*x1*x2*y1*y2)*x3)*((1+d*x2*x3*y2*y3)*(1 - d*x2*x3*y2*y3) - d*(x2*y3+x3*y2)*(y2*y3+x2*x3)*x1*y1)=
 ((y2*y3+x2*x3)*(1+d*x2*x3*y2*y3)*y1+(x2*y3+x3*y2)*(1 - d*x2*x3*y2*y3)*x1)*((1+d*x1*x2*y1*y2)*(1 - d*x1*x2*y1*y2) - d*(x1*y2+x2*y1)*(y1*y2+x1*x2)*x3*y3):=by
 grind
theorem E.triple (P Q T:E):
 ((P+Q)+T).x*((1+P.m Q)*(1 - P.m Q)+kD*(P.x*Q.y+Q.x*P.y)*(P.y*Q.y+P.x*Q.x)*T.x*T.y)=(P.x*Q.y+Q.x*P.y)*(1 - P.m Q)*T.y+(P.y*Q.y+P.x*Q.x)*(1+P.m Q)*T.x∧
 ((P+Q)+T).y*((1+P.m Q)*(1 - P.m Q) - kD*(P.x*Q.y+Q.x*P.y)*(P.y*Q.y+P.x*Q.x)*T.x*T.y)=(P.y*Q.y+P.x*Q.x)*(1+P.m Q)*T.y+(P.x*Q.y+Q.x*P.y)*(1 - P.m Q)*T.x∧
 (1+P.m Q)*(1 - P.m Q)+kD*(P.x*Q.y+Q.x*P.y)*(P.y*Q.y+P.x*Q.x)*T.x*T.y≠0∧
 (1+P.m Q)*(1 - P.m Q) - kD*(P.x*Q.y+Q.x*P.y)*(P.y*Q.y+P.x*Q.x)*T.x*T.y≠0:=by
 have a1:=E.wT P Q
 have a2:=E.yK P Q
 have b1:=E.wT (P+Q) T
 have b2:=E.yK (P+Q) T
 obtain ⟨d1,d2⟩:=E.den P Q
 obtain ⟨d3,d4⟩:=E.den (P+Q) T
 have e:(P+Q).m T=kD*(P+Q).x*T.x*(P+Q).y*T.y:=rfl
 rw [e] at b1 b2 d3 d4
 generalize (P+Q).x=X at*
 generalize (P+Q).y=Y at*
 generalize ((P+Q)+T).x=U at*
 generalize ((P+Q)+T).y=V at*
 generalize P.x*Q.y+Q.x*P.y=A at*
 generalize P.y*Q.y+P.x*Q.x=C at*
 generalize P.m Q=m at*
 generalize T.x=x3 at*
 generalize T.y=y3 at*
 have f1:(1+m)*(1 - m)+kD*A*C*x3*y3=(1+m)*(1 - m)*(1+kD*X*x3*Y*y3):=by rw [← a1,← a2]; grind
 have f2:(1+m)*(1 - m) - kD*A*C*x3*y3=(1+m)*(1 - m)*(1 - kD*X*x3*Y*y3):=by rw [← a1,← a2]; grind
 refine ⟨?_,?_,?_,?_⟩
 · rw [f1]; grind
 · rw [f2]; grind
 · rw [f1]; exact K.aZ (K.aZ d1 d2) d3
 · rw [f2]; exact K.aZ (K.aZ d1 d2) d4
theorem E.add_assoc (P Q T:E):(P+Q)+T=P+(Q+T):=by
 obtain ⟨a1,a2,a3,a4⟩:=E.triple P Q T
 obtain ⟨b1,b2,b3,b4⟩:=E.triple Q T P
 rw [E.add_comm P (Q+T)]
 have hx:=afy P.on Q.on T.on
 have hy:=afz P.on Q.on T.on
 have e1:P.m Q=kD*P.x*Q.x*P.y*Q.y:=rfl
 have e2:Q.m T=kD*Q.x*T.x*Q.y*T.y:=rfl
 rw [e1] at a1 a2 a3 a4
 rw [e2] at b1 b2 b3 b4
 refine E.ext ?_ ?_
 · refine K.cancel (K.aZ a3 b3) ?_
   generalize ((P+Q)+T).x=U at*
   generalize ((Q+T)+P).x=V at*
   rw [← a1,← b1] at hx
   generalize (1+kD*P.x*Q.x*P.y*Q.y)*(1 - kD*P.x*Q.x*P.y*Q.y)+kD*(P.x*Q.y+Q.x*P.y)*(P.y*Q.y+P.x*Q.x)*T.x*T.y=D1 at*
   generalize (1+kD*Q.x*T.x*Q.y*T.y)*(1 - kD*Q.x*T.x*Q.y*T.y)+kD*(Q.x*T.y+T.x*Q.y)*(Q.y*T.y+Q.x*T.x)*P.x*P.y=D2 at*
   clear a1 a2 a3 a4 b1 b2 b3 b4 hy e1 e2
   grind
 · refine K.cancel (K.aZ a4 b4) ?_
   generalize ((P+Q)+T).y=U at*
   generalize ((Q+T)+P).y=V at*
   rw [← a2,← b2] at hy
   generalize (1+kD*P.x*Q.x*P.y*Q.y)*(1 - kD*P.x*Q.x*P.y*Q.y) - kD*(P.x*Q.y+Q.x*P.y)*(P.y*Q.y+P.x*Q.x)*T.x*T.y=D1 at*
   generalize (1+kD*Q.x*T.x*Q.y*T.y)*(1 - kD*Q.x*T.x*Q.y*T.y) - kD*(Q.x*T.y+T.x*Q.y)*(Q.y*T.y+Q.x*T.x)*P.x*P.y=D2 at*
   clear a1 a2 a3 a4 b1 b2 b3 b4 hx e1 e2
   grind
end Vx

/-
  The program's numbers as elements of the field; what the root is. No program stands in it.
-/
namespace Vx

def k (n:Nat):K:=Fin.ofNat pP n
theorem mg (n:Nat):(k n).val=n % pP:=rfl
theorem CB (a:K):k a.val=a:=K.ext (by rw [mg,Nat.mod_eq_of_lt a.isLt])
theorem alp {n:Nat} (h:n<pP):(k n).val=n:=by rw [mg,Nat.mod_eq_of_lt h]
theorem BZ {a b:Nat} (ha:a<pP) (hb:b<pP) (h:k a=k b):a=b:=by
 have:=congrArg Fin.val h
 rwa [alp ha,alp hb] at this
theorem La:k 0=0:=rfl
theorem iA:k 1=1:=rfl
theorem acL:0<pP:=by decide

theorem Oi (a b:Nat):ah a b=(k a*k b).val:=by rw [lZ,K.Lj,mg,mg,← Nat.mul_mod]
theorem DL (a b:Nat):bH a b=(k a+k b).val:=by rw [yI,K.UB,mg,mg,← Nat.add_mod]
theorem M6 (a:Nat):aH a=(k a).val:=by rw [ed,mg]
theorem Ff (a:Nat):fJ a=(-k a).val:=by
 rw [oV]
 by_cases h:k a=0
 · have h1:a % pP=0:=by rw [← mg,h]; rfl
   rw [h,h1]
   decide+kernel
 · rw [K.VM h,mg,Nat.mod_eq_of_lt]
   have:a % pP≠0:=fun e=> h (K.ext (by rw [mg,e]; rfl))
   have:=Nat.mod_lt a acL
   omega
theorem P6 (a b:Nat):bX a b=(k a - k b).val:=by
 rw [← Gz,DL,Ff,CB]
 have:k a+ -k b=k a - k b:=by grind
 rw [this]
theorem FQ (a e:Nat):gF a e=(k a^e).val:=by rw [l5,K.nC,mg,← Nat.pow_mod]
theorem Fv (a:Nat):nz a=(k a).odd:=by
 rw [rZ]; unfold K.odd; rw [mg]
 rcases Nat.mod_two_eq_zero_or_one (a % pP) with h | h<;> rw [h]<;> rfl
theorem MP (a:Nat):kZ a=(k a).abs.val:=by
 rw [CQ]
 unfold K.abs
 have h1:(k a).odd=decide (a % pP % 2=1):=by rw [← Fv,rZ]
 rw [h1]
 by_cases h:a % pP % 2=1
 · rw [if_pos h,if_pos (decide_eq_true h),← Ff,oV]
 · rw [if_neg h,if_neg (by simpa using h),mg]
theorem wh (a b:Nat):lq a b=decide (k a=k b):=by
 rw [Gu]
 congr 1
 exact propext ⟨fun h=> K.ext h,fun h=> congrArg Fin.val h⟩
theorem abW (a:Nat):uD a=decide (a<pP):=Dc a
theorem abN (a:Nat):fI a=(ik (k a)).val:=by rw [Db,FQ]; rfl

theorem iy (a b:Nat):k (ah a b)=k a*k b:=by rw [Oi,CB]
theorem sS (a b:Nat):k (bH a b)=k a+k b:=by rw [DL,CB]
theorem uz (a b:Nat):k (bX a b)=k a - k b:=by rw [P6,CB]
theorem uy (a:Nat):k (fJ a)= -k a:=by rw [Ff,CB]
theorem EY (a:Nat):k (aH a)=k a:=by rw [M6,CB]
theorem EX (a:Nat):k (kZ a)=(k a).abs:=by rw [MP,CB]
theorem ahU (a e:Nat):k (gF a e)=k a^e:=by rw [FQ,CB]
theorem abR (a:Nat):k (fI a)=ik (k a):=by rw [abN,CB]
theorem dY (a b:Nat):ah a b<pP:=by rw [Oi]; exact (k a*k b).isLt
theorem UA (a b:Nat):bH a b<pP:=by rw [DL]; exact (k a+k b).isLt
theorem XE (a b:Nat):bX a b<pP:=by rw [P6]; exact (k a - k b).isLt
theorem UR (a:Nat):aH a<pP:=by rw [M6]; exact (k a).isLt
theorem J8 (a:Nat):kZ a<pP:=by rw [MP]; exact (k a).abs.isLt
theorem agy (a e:Nat):gF a e<pP:=by rw [FQ]; exact (k a^e).isLt
theorem Zg:k iP=kI:=by rw [ajv,aju]; rfl
theorem H5:k dP=kD:=by rw [RA,ai9]; rfl

structure mM (u v:K) (r:K) (b:Bool):Prop where
 even:r.odd=false
 yes:b=true→v*(r*r)=u
 no:b=false→v≠0→v*(r*r)=kI*u
 none:v=0→r=0
 zero:u=0→r=0
 iff:b=true↔(u=0∨(v≠0∧Sq (u*v)))

theorem amG (w:K) (h:w*w=1∨w*w= -1):w=1∨w= -1∨w=kI∨w= -kI:=by
 have hi:=oQ
 rcases h with h | h
 · have:w*w=1*1:=by grind
   rcases K.Cq this with h | h
   · exact .inl h
   · exact .inr (.inl h)
 · have:w*w=kI*kI:=by grind
   rcases K.Cq this with h | h
   · exact .inr (.inr (.inl h))
   · exact .inr (.inr (.inr h))

theorem alo:kI≠1∧kI≠ -1∧ -kI≠1∧ -kI≠ -1∧kI≠ -kI∧(1:K)≠ -1:=by decide+kernel

theorem ZW {U V R:K} (hU0:U=0→R=0) (hV0:V=0→R=0)
 (hw:U≠0→V≠0→ ∃ w,V*(R*R)=U*w∧(w*w=1∨w*w= -1)∧(Sq (U*V)↔w*w=1)):
 mM U V (bif decide (V*(R*R)= -U) || decide (V*(R*R)= -(U*kI)) then R*kI else R).abs (decide (V*(R*R)=U) || decide (V*(R*R)= -U)):=by
 by_cases hU:U=0
 · have hR0:R=0:=hU0 hU
   rw [hR0,hU]
   have e1:(V*(0*0):K)=0:=by grind
   have e2:(-0:K)=0:=by grind
   have e3:(0*kI:K)=0:=by grind
   rw [e1,e2,e3,e2]
   simp only [decide_true,Bool.or_self,cond_true]
   have e4:(0:K).abs=0:=by decide
   rw [e4]
   exact ⟨rfl,fun _=> by grind,fun h=> (by cases h),fun _=> rfl,fun _=> rfl,⟨fun _=> .inl rfl,fun _=> rfl⟩⟩
 by_cases hV:V=0
 · have hR0:R=0:=hV0 hV
   rw [hR0,hV]
   have e1:((0:K)*(0*0))=0:=by grind
   have n1: ¬ ((0:K)= -U):=fun h=> hU (by grind)
   have n2: ¬ ((0:K)= -(U*kI)):=fun h=> K.aZ hU VE (by grind)
   have n3: ¬ ((0:K)=U):=fun h=> hU h.symm
   rw [e1,decide_eq_false n1,decide_eq_false n2,decide_eq_false n3]
   simp only [Bool.or_self,cond_false]
   have e4:(0:K).abs=0:=by decide
   rw [e4]
   exact ⟨rfl,fun h=> (by cases h),fun _ h=> absurd rfl h,fun _=> rfl,fun _=> rfl,⟨fun h=> (by cases h),fun h=> h.elim (fun h=> absurd h hU) (fun h=> absurd rfl h.1)⟩⟩
 obtain ⟨w,hck,hww,hsq⟩:=hw hU hV
 have hneg: ∀ x:K,(V*(R*R)=U*x)=(w=x):=fun x=> propext (by
  rw [hck]
  exact ⟨fun h=> K.cancel hU (by grind),fun h=> by rw [h]⟩)
 have c1:(V*(R*R)=U)=(w=1):=by rw [← hneg]; congr 1; grind
 have c2:(V*(R*R)= -U)=(w= -1):=by rw [← hneg]; congr 1; grind
 have c3:(V*(R*R)= -(U*kI))=(w= -kI):=by rw [← hneg]; congr 1; grind
 have hi:=oQ
 obtain ⟨p1,p2,p3,p4,p5,p6⟩:=alo
 have fin: ∀ (r:K) (b:Bool),(b=true→V*(r*r)=U)→(b=false→V*(r*r)=kI*U)→(b=true↔w*w=1)→mM U V r.abs b:=by
  intro r b h1 h2 h3
  refine ⟨K.rf r,fun h=> by rw [K.tL]; exact h1 h,fun h _=> by rw [K.tL]; exact h2 h,fun h=> absurd h hV,fun h=> absurd h hU,?_⟩
  rw [h3,← hsq]
  exact ⟨fun h=> .inr ⟨hV,h⟩,fun h=> h.elim (fun h=> absurd h hU) (fun h=> h.2)⟩
 have q3:(-1:K)≠ -kI:=fun h=> p1 (by grind)
 have q4:(-1:K)≠1:=fun h=> p6 h.symm
 have q5:(1:K)≠ -kI:=fun h=> p3 h.symm
 simp only [c1,c2,c3]
 rcases amG w hww with e | e | e | e
 · rw [decide_eq_true e,decide_eq_false (fun h=> p6 (e.symm.trans h)),decide_eq_false (fun h=> q5 (e.symm.trans h))]
   exact fin R true (fun _=> by rw [hck,e]; grind) (fun h=> by cases h) ⟨fun _=> by rw [e]; grind,fun _=> rfl⟩
 · rw [decide_eq_true e,decide_eq_false (fun h=> q4 (e.symm.trans h)),decide_eq_false (fun h=> q3 (e.symm.trans h))]
   exact fin (R*kI) true (fun _=> by rw [e] at hck; grind) (fun h=> by cases h) ⟨fun _=> by rw [e]; grind,fun _=> rfl⟩
 · rw [decide_eq_false (fun h=> p1 (e.symm.trans h)),decide_eq_false (fun h=> p2 (e.symm.trans h)),decide_eq_false (fun h=> p5 (e.symm.trans h))]
   exact fin R false (fun h=> by cases h) (fun _=> by rw [hck,e]; grind) ⟨fun h=> (by cases h),fun h=> by rw [e,hi] at h; exact absurd h q4⟩
 · rw [decide_eq_true e,decide_eq_false (fun h=> p3 (e.symm.trans h)),decide_eq_false (fun h=> p4 (e.symm.trans h))]
   refine fin (R*kI) false (fun h=> by cases h) (fun _=> by rw [e] at hck; grind) ⟨fun h=> (by cases h),fun h=> ?_⟩
   rw [e] at h
   exact absurd (show (-1:K)=1 by grind) q4

theorem Si (b:Bool) (x y:Nat):k (bif b then x else y)=bif b then k x else k y:=by cases b<;> rfl
def eR:Nat:=7237005577332262213973186563042994240829374041602535252466099000494570602493
def eR2:Nat:=14474011154664524427946373126085988481658748083205070504932198000989141204987
theorem ajf:eR2=(eR+eR)+1:=by decide+kernel
theorem U5:eR2+eR2=hP:=by decide+kernel
theorem akt:Ig pP 3=eR:=by rw [Dv]; decide+kernel
theorem ake {U V R:K} (hR:R=U*(V*V*V)*(U*(V*V*V*(V*V*V)*V))^eR) (hU:U≠0) (hV:V≠0):
 ∃ w,V*(R*R)=U*w∧(w*w=1∨w*w= -1)∧(Sq (U*V)↔w*w=1):=by
 have hS0:U*(V*V*V*(V*V*V)*V)≠0:=K.aZ hU (K.aZ (K.aZ (K.aZ (K.aZ hV hV) hV) (K.aZ (K.aZ hV hV) hV)) hV)
 generalize hS:U*(V*V*V*(V*V*V)*V)=S at*
 have hw2:S^eR2*S^eR2=S^hP:=by rw [← K.pow_add,U5]
 refine ⟨S^eR2,?_,?_,?_⟩
 · rw [ajf,K.pow_succ,K.pow_add,hR]
   generalize S^eR=q
   rw [← hS]
   grind
 · rw [hw2]; exact K.FR hS0
 · rw [hw2,← Sq.iff hS0,← hS]
   have hv6:Sq (V*V*V*(V*V*V)):=⟨V*V*V,rfl⟩
   have hv0:V*V*V*(V*V*V)≠0:=K.aZ (K.aZ (K.aZ hV hV) hV) (K.aZ (K.aZ hV hV) hV)
   have e:U*(V*V*V*(V*V*V)*V)=V*V*V*(V*V*V)*(U*V):=by
    clear hR hw2 hS hS0
    grind
   rw [e]
   exact ⟨fun h=> Sq.mul hv6 h,fun h=> Sq.Fx hv0 hv6 h⟩

theorem nE (u v:Nat):mM (k u) (k v) (k (dU u v)) (kT u v)∧dU u v<pP:=by
 rw [F9,F8]
 unfold F7
 simp only [wh,EX,iy,uy,Zg,Si,ahU,akt]
 refine ⟨?_,J8 _⟩
 refine ZW ?_ ?_ (ake rfl)
 · intro h
   rw [h]
   generalize ((0:K)*(k v*k v*k v*(k v*k v*k v)*k v))^eR=q
   grind
 · intro h
   rw [h]
   generalize (k u*((0:K)*0*0*(0*0*0)*0))^eR=q
   grind

theorem mM.unique {u v r r':K} {b b':Bool} (h:mM u v r b) (h':mM u v r' b'):r=r'∧b=b':=by
 have hb:b=b':=by
  have:=h.iff.trans h'.iff.symm
  cases b<;> cases b'<;> simp_all
 subst hb
 refine ⟨?_,rfl⟩
 by_cases hv:v=0
 · rw [h.none hv,h'.none hv]
 · refine K.jc h.even h'.even (K.cancel hv ?_)
   cases b with
   | true=>
     have e1:=h.yes rfl
     have e2:=h'.yes rfl
     grind
   | false=>
     have e1:=h.no rfl hv
     have e2:=h'.no rfl hv
     grind
theorem mM.of {u v r s:K} {b:Bool} (h:mM u v r b) (hv:v≠0) (hs:v*(s*s)=u):b=true∧r=s.abs:=by
 have hb:b=true:=h.iff.2 (by
  by_cases hu:u=0
  · exact .inl hu
  · refine .inr ⟨hv,v*s,?_⟩
    rw [← hs]; grind)
 refine ⟨hb,K.jc h.even (K.rf s) (K.cancel hv ?_)⟩
 have:=h.yes hb
 rw [K.tL]
 grind
end Vx

/-
  Points as four numbers; cosets of the four points; twice a point; the element's number. No program stands in it.
-/
namespace Vx

structure fq (q:P4) (P:E):Prop where
 z:k q.z≠0
 x:k q.x=P.x*k q.z
 y:k q.y=P.y*k q.z
 t:k q.t=P.x*P.y*k q.z

theorem yJ {q r:P4} {P Q:E} (h1:fq q P) (h2:fq r Q):fq (yG q r) (P+Q):=by
 obtain ⟨z1,x1,y1,t1⟩:=h1
 obtain ⟨z2,x2,y2,t2⟩:=h2
 obtain ⟨d1,d2⟩:=E.den P Q
 have ax:=E.wT P Q
 have ay:=E.yK P Q
 have hm:P.m Q=kD*P.x*Q.x*P.y*Q.y:=rfl
 rw [yH,DK,Mi]
 unfold TF
 generalize hZ1:k q.z=Z1 at*
 generalize hZ2:k r.z=Z2 at*
 have hz:=K.aZ z1 z2
 have e1:(P.y*Z1+P.x*Z1)*(Q.y*Z2+Q.x*Z2) - (P.y*Z1 - P.x*Z1)*(Q.y*Z2 - Q.x*Z2)=2*(P.x*Q.y+Q.x*P.y)*(Z1*Z2):=by grind
 have e2:(P.y*Z1+P.x*Z1)*(Q.y*Z2+Q.x*Z2)+(P.y*Z1 - P.x*Z1)*(Q.y*Z2 - Q.x*Z2)=2*(P.y*Q.y+P.x*Q.x)*(Z1*Z2):=by grind
 have e3:Z1*Z2+Z1*Z2+P.x*P.y*Z1*(kD+kD)*(Q.x*Q.y*Z2)=2*(Z1*Z2)*(1+P.m Q):=by rw [hm]; grind
 have e4:Z1*Z2+Z1*Z2 - P.x*P.y*Z1*(kD+kD)*(Q.x*Q.y*Z2)=2*(Z1*Z2)*(1 - P.m Q):=by rw [hm]; grind
 have n1:2*(Z1*Z2)*(1+P.m Q)≠0:=K.aZ (K.aZ K.yA hz) d1
 have n2:2*(Z1*Z2)*(1 - P.m Q)≠0:=K.aZ (K.aZ K.yA hz) d2
 refine ⟨?_,?_,?_,?_⟩<;> simp only [iy,sS,uz,H5,hZ1,hZ2,x1,y1,t1,x2,y2,t2,e1,e2,e3,e4]<;> clear hZ1 hZ2 e1 e2 e3 e4 hm x1 y1 t1 x2 y2 t2
 · exact K.aZ n2 n1
 · rw [← ax]; grind
 · rw [← ay]; grind
 · rw [← ax,← ay]; grind

theorem fq.unique {q:P4} {P Q:E} (h1:fq q P) (h2:fq q Q):P=Q:=
 E.ext (K.cancel h1.z (h1.x.symm.trans h2.x)) (K.cancel h1.z (h1.y.symm.trans h2.y))

theorem EW:fq Vt 0:=⟨by show k 1≠0; exact K.jf,by show k 0=0*k 1; rw [La]; grind,by show k 1=1*k 1; grind,by show k 0=0*1*k 1; rw [La]; grind⟩

section
variable {n:Nat} [NeZero n] {d x y z w:Fin n}
theorem g1 (h:y*y - x*x=1+d*x*x*y*y) (hx:x=0):y*y=1:=by subst hx; grind
theorem g2 (h:y*y - x*x=1+d*x*x*y*y) (hx:y=0):x*x= -1:=by subst hx; grind
theorem g5 (h:y*y - x*x=1+d*x*x*y*y) (h2:w*w - z*z=1+d*z*z*w*w) (hx:x=0) (hz:z=0):w*w=y*y:=by subst hx; subst hz; grind
theorem g3 (h:x=0):1 - d*(x*x)=1:=by subst h; grind
theorem g4 (h:x*x= -1):1 - d*(x*x)= -(-1 - d):=by grind
end
theorem K.drop (o a:K):o+a*(0*0)=o:=by grind
theorem K.drop' (o a:K):o - a*(0*0)=o:=by grind
theorem K.ZY {a:K} (h:a*a=1):a≠0:=fun e=> by
 rw [e] at h
 exact absurd h (by decide+kernel)
theorem abp (y:K):1+kD*(y*y)≠0:=fun h=> by
 have h2:kD*(y*y)=kI*kI:=by have:=oQ; grind
 by_cases hy:y=0
 · rw [hy,K.drop] at h; exact K.jf h
 · exact nJ (JL hy h2)
theorem IK (x:K):1 - kD*(x*x)≠0:=fun h=> by
 have h2:kD*(x*x)=1*1:=by grind
 by_cases hx:x=0
 · rw [hx,K.drop'] at h; exact K.jf h
 · exact nJ (JL hx h2)
theorem E.G6 (P:E):P.x*P.x*(1+kD*(P.y*P.y))=P.y*P.y - 1:=by have:=P.on; grind
theorem E.jc {P Q:E} (hy:P.y=Q.y) (hP:P.x.odd=false) (hQ:Q.x.odd=false):P=Q:=by
 refine E.ext (K.jc hP hQ (K.cancel (abp P.y) ?_)) hy
 rw [P.G6,hy,Q.G6]

theorem ai3 {y:Nat} {o:Bool} (h:atB y o=true): ∃ P,fq (atP y o) P∧P.y=k y∧P.x=(bif o then -k (dU (bX (ah y y) 1) (bH (ah dP (ah y y)) 1)) else k (dU (bX (ah y y) 1) (bH (ah dP (ah y y)) 1))):=by
 rw [Kh]
 unfold at0
 rw [h]
 simp only [cond_true]
 rw [Kg] at h
 obtain ⟨hr,_⟩:=nE (bX (ah y y) 1) (bH (ah dP (ah y y)) 1)
 simp only [Bool.not_or,Bool.and_eq_true,Bool.not_not] at h
 have h2:=hr.yes h.1
 simp only [uz,sS,iy,H5,iA] at h2
 generalize dU (bX (ah y y) 1) (bH (ah dP (ah y y)) 1)=r at*
 have hx: ∀ x:K,x*x=k r*k r→(k y)*(k y) - x*x=1+kD*x*x*k y*k y:=by
  intro x hx
  grind
 cases o with
 | false=>
   refine ⟨⟨k r,k y,hx _ rfl⟩,⟨?_,?_,?_,?_⟩,rfl,rfl⟩
   · exact K.jf
   · show k r=k r*k 1; rw [iA]; grind
   · show k (aH y)=k y*k 1; rw [EY,iA]; grind
   · show k (ah r y)=k r*k y*k 1; rw [iy,iA]; grind
 | true=>
   refine ⟨⟨-k r,k y,hx _ (by grind)⟩,⟨?_,?_,?_,?_⟩,rfl,rfl⟩
   · exact K.jf
   · show k (fJ r)= -k r*k 1; rw [uy,iA]; grind
   · show k (aH y)=k y*k 1; rw [EY,iA]; grind
   · show k (ah (fJ r) y)= -k r*k y*k 1; rw [iy,uy,iA]; grind

def E.MM (T:E):Prop:=T.x*T.y=0
def E.t2 (P:E):E:=⟨-P.x, -P.y,by have:=P.on; grind⟩
def E.ti (P:E):E:=⟨kI*P.y,kI*P.x,by have:=P.on; have:=oQ; grind⟩
theorem E.akA (P Q:E):P.t2+Q=(P+Q).t2:=by
 refine (E.Ey ?_ ?_).symm
 · show -(P+Q).x*(1+kD* -P.x*Q.x* -P.y*Q.y)= -P.x*Q.y+Q.x* -P.y
   have ax:=E.wT P Q
   have hm:P.m Q=kD*P.x*Q.x*P.y*Q.y:=rfl
   rw [hm] at ax
   generalize (P+Q).x=X at*
   generalize (P+Q).y=Y at*
   clear hm
   grind
 · show -(P+Q).y*(1 - kD* -P.x*Q.x* -P.y*Q.y)= -P.y*Q.y+ -P.x*Q.x
   have ax:=E.yK P Q
   have hm:P.m Q=kD*P.x*Q.x*P.y*Q.y:=rfl
   rw [hm] at ax
   generalize (P+Q).x=X at*
   generalize (P+Q).y=Y at*
   clear hm
   grind
theorem E.akC (P Q:E):P.ti+Q=(P+Q).ti:=by
 refine (E.Ey ?_ ?_).symm
 · show kI*(P+Q).y*(1+kD*(kI*P.y)*Q.x*(kI*P.x)*Q.y)=kI*P.y*Q.y+Q.x*(kI*P.x)
   have ax:=E.yK P Q
   have:=oQ
   have hm:P.m Q=kD*P.x*Q.x*P.y*Q.y:=rfl
   rw [hm] at ax
   generalize (P+Q).x=X at*
   generalize (P+Q).y=Y at*
   clear hm
   grind
 · show kI*(P+Q).x*(1 - kD*(kI*P.y)*Q.x*(kI*P.x)*Q.y)=kI*P.x*Q.y+kI*P.y*Q.x
   have ax:=E.wT P Q
   have:=oQ
   have hm:P.m Q=kD*P.x*Q.x*P.y*Q.y:=rfl
   rw [hm] at ax
   generalize (P+Q).x=X at*
   generalize (P+Q).y=Y at*
   clear hm
   grind
theorem E.aeH (P:E):P.t2=P+(0:E).t2:=by rw [E.add_comm,E.akA,E.zero_add]
theorem E.ae0 (P:E):P.ti=P+(0:E).ti:=by rw [E.add_comm,E.akC,E.zero_add]
theorem Ap:(0:E).MM:=by show (0:K)*1=0; grind
theorem Ul:(0:E).t2.MM:=by show -(0:K)* -1=0; grind
theorem Um:(0:E).ti.MM:=by show kI*(1:K)*(kI*0)=0; grind
theorem DD {S T:E} (h1:S.MM) (h2:T.MM):(S+T).MM:=by
 unfold E.MM at*
 have ax:=E.wT S T
 have ay:=E.yK S T
 have hm:S.m T=0:=by
  have:S.m T=kD*(S.x*S.y)*(T.x*T.y):=by unfold E.m; grind
  rw [this,h1]; grind
 rw [hm] at ax ay
 grind
theorem ahd {T:E} (h:T.MM):(-T).MM:=by
 unfold E.MM at*
 rw [E.VN,E.ab4]; grind

def Co (P Q:E):Prop:=P.x*Q.y=P.y*Q.x∨P.y*Q.y=P.x*Q.x
theorem co1 {P Q:E} (h:P.x*Q.y=P.y*Q.x):Q=P∨Q=P.t2:=by
 have hp:=P.on
 have hq:=Q.on
 by_cases hx:P.x=0
 · have hy2:P.y*P.y=1:=g1 hp hx
   have hy:P.y≠0:=K.ZY hy2
   have hqx:Q.x=0:=by
    have:Q.x*P.y=0*P.y:=by rw [hx] at h; grind
    exact K.cancel hy this
   have hqy:Q.y*Q.y=P.y*P.y:=g5 hp hq hx hqx
   rcases K.Cq hqy with e | e
   · exact .inl (E.ext (by rw [hx,hqx]) e)
   · exact .inr (E.ext (by show Q.x= -P.x; rw [hx,hqx]; grind) e)
 · have hi:=mh hx
   obtain ⟨l,hl⟩: ∃ l,l=Q.x*ik P.x:=⟨_,rfl⟩
   have e1:Q.x=l*P.x:=by rw [hl]; grind
   have e2:Q.y=l*P.y:=K.cancel hx (by rw [e1] at h; grind)
   rw [e1,e2] at hq
   have key:(l*l - 1)*(1 - l*l*(kD*(P.x*P.x*(P.y*P.y))))=0:=by grind
   rcases K.dh key with h1 | h1
   · have:l*l=1*1:=by grind
     rcases K.Cq this with e | e
     · exact .inl (E.ext (by rw [e1,e]; grind) (by rw [e2,e]; grind))
     · exact .inr (E.ext (by show Q.x= -P.x; rw [e1,e]; grind) (by show Q.y= -P.y; rw [e2,e]; grind))
   · exfalso
     have hne:l*P.x*P.y≠0:=fun e=> by
      have:l*l*(kD*(P.x*P.x*(P.y*P.y)))=kD*(l*P.x*P.y)*(l*P.x*P.y):=by grind
      rw [this,e] at h1
      exact absurd h1 (by decide+kernel)
     exact nJ (JL (w:=1) hne (by grind))
theorem Ni {P Q:E} (h:Co P Q):Q=P∨Q=P.t2∨Q=P.ti∨Q=P.ti.t2:=by
 rcases h with h | h
 · rcases co1 h with e | e
   · exact .inl e
   · exact .inr (.inl e)
 · have hi:=oQ
   have h2:P.ti.x*Q.y=P.ti.y*Q.x:=by
    show kI*P.y*Q.y=kI*P.x*Q.x
    grind
   rcases co1 h2 with e | e
   · exact .inr (.inr (.inl e))
   · exact .inr (.inr (.inr e))
theorem kJ {P Q:E}:Co P Q↔ ∃ T:E,T.MM∧Q=P+T:=by
 constructor
 · intro h
   rcases Ni h with e | e | e | e
   · exact ⟨0,Ap,by rw [e,E.add_zero]⟩
   · exact ⟨_,Ul,by rw [e,← E.aeH]⟩
   · exact ⟨_,Um,by rw [e,← E.ae0]⟩
   · exact ⟨_,DD Um Ul,by rw [e,← E.add_assoc,← E.ae0,← E.aeH]⟩
 · rintro ⟨T,hT,rfl⟩
   unfold E.MM at hT
   have ax:=E.wT P T
   have ay:=E.yK P T
   have hm:P.m T=0:=by
    have:P.m T=kD*(T.x*T.y)*(P.x*P.y):=by unfold E.m; grind
    rw [this,hT]; grind
   rw [hm] at ax ay
   have ex:(P+T).x=P.x*T.y+T.x*P.y:=by grind
   have ey:(P+T).y=P.y*T.y+P.x*T.x:=by grind
   rcases K.dh hT with h | h
   · exact .inl (by rw [ex,ey,h]; grind)
   · exact .inr (by rw [ex,ey,h]; grind)
theorem kK (P:E):Co P P:=kJ.2 ⟨0,Ap,(E.add_zero P).symm⟩
theorem vw {P Q:E} (h:Co P Q):Co Q P:=by
 obtain ⟨T,hT,rfl⟩:=kJ.1 h
 exact kJ.2 ⟨-T,ahd hT,by rw [E.add_assoc,E.add_neg,E.add_zero]⟩
theorem jJ {P Q R:E} (h:Co P Q) (h2:Co Q R):Co P R:=by
 obtain ⟨T,hT,rfl⟩:=kJ.1 h
 obtain ⟨S,hS,rfl⟩:=kJ.1 h2
 exact kJ.2 ⟨T+S,DD hT hS,by rw [E.add_assoc]⟩
theorem tZ {P Q R S:E} (h:Co P Q) (h2:Co R S):Co (P+R) (Q+S):=by
 obtain ⟨T,hT,rfl⟩:=kJ.1 h
 obtain ⟨U,hU,rfl⟩:=kJ.1 h2
 refine kJ.2 ⟨T+U,DD hT hU,?_⟩
 rw [E.add_assoc,E.add_assoc,← E.add_assoc T,E.add_comm T,E.add_assoc R]
theorem ajo {q r:P4} {P Q:E} (h1:fq q P) (h2:fq r Q):abx q r=true↔Co P Q:=by
 rw [Vf]
 unfold afU
 simp only [wh,iy,Bool.or_eq_true,decide_eq_true_eq,h1.x,h1.y,h2.x,h2.y]
 have z1:=h1.z
 have z2:=h2.z
 generalize k q.z=Z1 at*
 generalize k r.z=Z2 at*
 have hz:=K.aZ z1 z2
 unfold Co
 constructor
 · rintro (h | h)
   · exact .inl (K.cancel hz (by grind))
   · exact .inr (K.cancel hz (by grind))
 · rintro (h | h)
   · exact .inl (by grind)
   · exact .inr (by grind)

def Ev (P:E):Prop:=Sq (1 - kD*(P.x*P.x))
theorem ajq {d x1 y1 x2 y2:K} (h1:y1*y1 - x1*x1=1+d*x1*x1*y1*y1) (h2:y2*y2 - x2*x2=1+d*x2*x2*y2*y2):
 ((1+d*x1*x2*y1*y2)*(1+d*x1*x2*y1*y2) - d*((x1*y2+x2*y1)*(x1*y2+x2*y1)))*((1 - d*(x1*x1))*(1 - d*(x2*x2)))=
   (1 - d*(x1*x1) - d*(x2*x2) - d*(x1*x1)*(x2*x2))*(1 - d*(x1*x1) - d*(x2*x2) - d*(x1*x1)*(x2*x2)):=by grind
theorem abB (P Q:E): ∃ w,(1 - kD*((P+Q).x*(P+Q).x))*((1+P.m Q)*(1+P.m Q))*((1 - kD*(P.x*P.x))*(1 - kD*(Q.x*Q.x)))=w*w:=by
 refine ⟨_,Eq.trans ?_ (ajq P.on Q.on)⟩
 have ax:=E.wT P Q
 have hm:P.m Q=kD*P.x*Q.x*P.y*Q.y:=rfl
 rw [← hm,← ax]
 grind
theorem EH {P Q:E} (h1:Ev P) (h2:Ev Q):Ev (P+Q):=by
 obtain ⟨w,hw⟩:=abB P Q
 have s1:Sq ((1+P.m Q)*(1+P.m Q)*((1 - kD*(P.x*P.x))*(1 - kD*(Q.x*Q.x)))):=Sq.mul ⟨_,rfl⟩ (Sq.mul h1 h2)
 refine Sq.r9 (K.aZ (K.aZ (E.den P Q).1 (E.den P Q).1) (K.aZ (IK P.x) (IK Q.x))) s1 ⟨w,?_⟩
 rw [← hw]; grind
theorem Y0 (P:E):Ev (P+P):=by
 obtain ⟨w,hw⟩:=abB P P
 have s1:Sq ((1+P.m P)*(1+P.m P)*((1 - kD*(P.x*P.x))*(1 - kD*(P.x*P.x)))):=Sq.mul ⟨_,rfl⟩ ⟨_,rfl⟩
 refine Sq.r9 (K.aZ (K.aZ (E.den P P).1 (E.den P P).1) (K.aZ (IK P.x) (IK P.x))) s1 ⟨w,?_⟩
 rw [← hw]; grind
theorem ajr {P:E} (h:Ev P):Ev (-P):=by
 unfold Ev at*
 rw [E.VN]
 have: -P.x* -P.x=P.x*P.x:=by grind
 rwa [this]
theorem pz:Sq (-1 - kD):=by
 have h0:(-1 - kD:K)≠0:=by decide+kernel
 rw [Sq.iff h0]
 apply K.ext
 rw [K.nC,← Cg]
 decide+kernel
theorem abC {T:E} (h:T.MM):Ev T:=by
 unfold Ev
 rcases K.dh h with h | h
 · rw [g3 h]; exact Sq.one
 · rw [g4 (g2 T.on h)]; exact Sq.neg pz
theorem abz {P Q:E} (h:Co P Q) (hP:Ev P):Ev Q:=by
 obtain ⟨T,hT,rfl⟩:=kJ.1 h
 exact EH hP (abC hT)
theorem za:Ev 0:=abC Ap
theorem E.akN (P:E):(1 - P.y*P.y)*(1 - kD*(P.x*P.x))=(-1 - kD)*(P.x*P.x):=by have:=P.on; grind
theorem ahF {P:E} (h:Ev P):Sq (1 - P.y*P.y):=by
 refine Sq.r9 (IK P.x) h ?_
 rw [P.akN]
 exact Sq.mul pz ⟨_,rfl⟩
end Vx
