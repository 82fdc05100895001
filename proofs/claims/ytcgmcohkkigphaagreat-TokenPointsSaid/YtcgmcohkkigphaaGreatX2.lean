/-
  An executor of Go code on values of its own: that what it says of addresses, parts and new aggregates is so.
-/
import Derived.Test.YtcgmcohkkigphaaGreatX1
import Derived.Laws.CopyRow
import Derived.Lib.ConvBytes
import Derived.Laws.BytesArg
namespace Vx
open Go Go.RowKit

section
variable {P:Program} {w:World} {σ:Sg}

theorem MK {id off:Nat} {x:Value} (h:aQ σ (.u (.one (.ptr id off))) x): ∃ b,σ id=some b∧x= .pointer (some ⟨b,off,none⟩):=by
 obtain ⟨_,b,hb,e⟩:=h
 cases e
 exact ⟨b,hb,rfl⟩

theorem J5 {id s i r:Nat} {x:Value} (h:aQ σ (.u (.one (.jA id s i r))) x): ∃ b,σ id=some b∧x= .pointer (some ⟨b,i*s+r,none⟩):=by
 obtain ⟨_,b,hb,e⟩:=h
 cases e
 exact ⟨b,hb,rfl⟩

theorem vsl {id off n c:Nat} {x:Value} (h:aQ σ (.u (.one (.sl id off n c))) x): ∃ b,σ id=some b∧x= .slice (some ⟨b,off,none⟩) n c:=by
 obtain ⟨_,b,hb,e⟩:=h
 cases e
 exact ⟨b,hb,rfl⟩

theorem Ut {id s off len mx:Nat} {x:Value} (h:aQ σ (.u (.one (.row id s off len mx))) x):
 (∃ b cap,σ id=some b∧(off+cap)*s=σ.z b∧len≤mx∧mx≤cap∧off+cap≤maxLen∧x= .slice (some ⟨b,off*s,none⟩) len cap)∨
  (len=0∧mx=0∧((off=0∧x= .slice none 0 0)∨(0<off∧ ∃ a,x= .slice a 0 0))):=by
 obtain ⟨_,h⟩:=h
 rcases h with ⟨b,cap,h1,h2,h3,h4,h5,e⟩ | ⟨h1,h2,⟨h3,e⟩ | ⟨h3,a,e⟩⟩
 · cases e; exact .inl ⟨b,cap,h1,h2,h3,h4,h5,rfl⟩
 · cases e; exact .inr ⟨h1,h2, .inl ⟨h3,rfl⟩⟩
 · cases e; exact .inr ⟨h1,h2, .inr ⟨h3,a,rfl⟩⟩
theorem Ba {id s off len mx b cap:Nat} (h1:σ id=some b) (h2:(off+cap)*s=σ.z b) (h3:len≤mx) (h4:mx≤cap) (h5:off+cap≤maxLen):
 aQ σ (.u (.one (.row id s off len mx))) (.slice (some ⟨b,off*s,none⟩) len cap):=⟨rfl, .inl ⟨b,cap,h1,h2,h3,h4,h5,rfl⟩⟩
theorem vrd {ts:List LT} {d:List (List D)} {x:Value} (h:aQ σ (.u (.one (.rd ts d))) x):
 ∃ a cap,x= .slice a d.length cap∧(d.length≤cap∧cap≤maxLen)∧(d= []∨ ∃ b o,a=some ⟨b,o,none⟩∧σ.im b∧ ∀ i e,d[i]? =some e→ ∃ ys,aT σ.w σ.im ts e ys∧eH σ.w b (o+i*bP ts) ys):=by
 obtain ⟨_,h⟩:=h
 simp only [dV,eF,D.wR] at h
 obtain ⟨a,cap,e,h1,h2⟩:=h
 cases e
 exact ⟨a,cap,rfl,h1,h2⟩
theorem ahY {ts:List LT} {d:List (List D)} {a:Option Addr} {cap:Nat} (h1:d.length≤cap∧cap≤maxLen)
 (h2:d= []∨ ∃ b o,a=some ⟨b,o,none⟩∧σ.im b∧ ∀ i e,d[i]? =some e→ ∃ ys,aT σ.w σ.im ts e ys∧eH σ.w b (o+i*bP ts) ys):
 aQ σ (.u (.one (.rd ts d))) (.slice a d.length cap):=by
 refine ⟨rfl,?_⟩
 simp only [dV,eF,D.wR]
 exact ⟨a,cap,rfl,h1,h2⟩
theorem vrp {ts:List LT} {d:List D} {off:Nat} {x:Value} (h:aQ σ (.u (.one (.rp ts d off))) x):
 ∃ b o ys,x= .pointer (some ⟨b,o+off,none⟩)∧σ.im b∧aT σ.w σ.im ts d ys∧eH σ.w b o ys:=by
 obtain ⟨_,b,o,ys,e,h1,h2,h3⟩:=h
 cases e
 exact ⟨b,o,ys,rfl,h1,h2,h3⟩
theorem Og {ts:List LT} {d:List D} {off b o:Nat} {ys:List Value} (h1:σ.im b) (h2:aT σ.w σ.im ts d ys) (h3:eH σ.w b o ys):
 aQ σ (.u (.one (.rp ts d off))) (.pointer (some ⟨b,o+off,none⟩)):=⟨rfl,b,o,ys,rfl,h1,h2,h3⟩

theorem nY {id off b:Nat} (h:σ id=some b):aQ σ (.u (.one (.ptr id off))) (.pointer (some ⟨b,off,none⟩)):=⟨rfl,b,h,rfl⟩
theorem rV {id s i r b:Nat} (h:σ id=some b):aQ σ (.u (.one (.jA id s i r))) (.pointer (some ⟨b,i*s+r,none⟩)):=⟨rfl,b,h,rfl⟩
theorem I4 {id off n c b:Nat} (h:σ id=some b):aQ σ (.u (.one (.sl id off n c))) (.slice (some ⟨b,off,none⟩) n c):=⟨rfl,b,h,rfl⟩

theorem addr_add (b o n:Nat):(⟨b,o,none⟩:Addr).add n=⟨b,o+n,none⟩:=by
 unfold Addr.add
 split
 · rename_i h; simp [h]
 · rfl

theorem KF {sy:Bool} {s d:TypeId} {x v:V} {a:Value} (he:Gives (RL sy P s d x) v) (h:aQ σ x a):
 ∃ y,(convert s d a).run P w= .ok y w∧aQ σ v y:=by
 unfold RL at he
 split at he
 · rename_i u k k' n hs hd
   obtain ⟨rfl,hk⟩:=nH h
   refine ⟨_,?_,vP he⟩
   simp [convert,run_underlying hs,run_underlying hd,Conv.intToInt]
 · cases he

theorem uR {s:TypeId} {fs:Array Field} {f:Nat} {fl:Field} {z b o:Nat} (hu:P.underlying s=some (.struct fs)) (hf:fs[f]? =some fl)
 (hz:jG P fl.type=some (z+1)):
 (Instr.fieldAt s (.pointer (some ⟨b,o,none⟩)) f).run P w= .ok (.pointer (some ⟨b,o+fl.offset,none⟩)) w:=by
 simp [Instr.fieldAt,run_underlying hu,hf,Instr.sureAddr,fieldPlace,run_sizeOf hz,addr_add]

theorem y7 {s:TypeId} {x v:V} {f:Nat} {a:Value} (he:Gives (ui P s x f) v) (h:aQ σ x a):
 ∃ y,(Instr.fieldAt s a f).run P w= .ok y w∧aQ σ v y:=by
 unfold ui at he
 split at he
 · rename_i fs id off hu
   split at he
   · rename_i fl hf
     split at he
     · rename_i z hz
       obtain ⟨_,rfl⟩:=au he
       obtain ⟨b,hb,rfl⟩:=MK h
       exact ⟨_,uR hu hf hz,nY hb⟩
     · cases he
   · cases he
 · rename_i fs id sz i r hu
   split at he
   · rename_i fl hf
     split at he
     · rename_i z hz
       obtain ⟨_,rfl⟩:=au he
       obtain ⟨b,hb,rfl⟩:=J5 h
       refine ⟨_,uR hu hf hz,?_⟩
       rw [Nat.add_assoc]
       exact rV hb
     · cases he
   · cases he
 · rename_i fs ts d off hu
   split at he
   · rename_i fl hf
     split at he
     · rename_i z hz
       obtain ⟨_,rfl⟩:=au he
       obtain ⟨b,o,ys,rfl,h1,h2,h3⟩:=vrp h
       refine ⟨_,uR hu hf hz,?_⟩
       rw [Nat.add_assoc]
       exact Og h1 h2 h3
     · cases he
   · cases he
 · cases he

theorem Hu {s:TypeId} {x v:V} {f:Nat} {a:Value} (he:Gives (KH P s x f) v) (h:aQ σ x a):
 ∃ y,(Instr.field s a f).run P w= .ok y w∧aQ σ v y:=by
 unfold KH at he
 split at he
 · rename_i fs c hu
   split at he
   · rename_i fl hf
     obtain ⟨xs,rfl,hc⟩:=vag h
     obtain ⟨y,hy,hv⟩:=OU (w:=w) he hc
     exact ⟨y,by simp [Instr.field,run_underlying hu,hf,asAgg,hy],hv⟩
   · cases he
 · cases he

theorem eT {i:Int} {n:Nat} (h:allT (iT i n)):0≤i∧i<(n:Int):=
 ⟨of_decide_eq_true (h _ (by simp [iT])),of_decide_eq_true (h _ (by simp [iT]))⟩

theorem jQ {t e:TypeId} {n s b o:Nat} {k:IntKind} {i:Int} (hu:P.underlying t=some (.array n e)) (hz:jG P e=some s) (h:0≤i∧i<(n:Int)):
 (Instr.indexAt t (.pointer (some ⟨b,o,none⟩)) (.int k i)).run P w= .ok (.pointer (some ⟨b,o+i.toNat*s,none⟩)) w:=by
 simp [Instr.indexAt,asIntOf,run_underlying hu,Instr.sureAddr,run_sizeOf hz,addr_add,h.1,h.2]

theorem kU {t e:TypeId} {n s b o c:Nat} {k:IntKind} {i:Int} (hu:P.underlying t=some (.slice e)) (hz:jG P e=some s) (h:0≤i∧i<(n:Int)):
 (Instr.indexAt t (.slice (some ⟨b,o,none⟩) n c) (.int k i)).run P w= .ok (.pointer (some ⟨b,o+i.toNat*s,none⟩)) w:=by
 simp [Instr.indexAt,asIntOf,run_underlying hu,run_sizeOf hz,addr_add,h.1,h.2]

theorem y8 {t:TypeId} {x i v:V} {a j:Value} (he:Gives (uj P t x i) v) (h:aQ σ x a) (hi:aQ σ i j):
 ∃ y,(Instr.indexAt t a j).run P w= .ok y w∧aQ σ v y:=by
 unfold uj at he
 split at he
 · rename_i n e id off k i hu
   obtain ⟨b,hb,rfl⟩:=MK h
   obtain ⟨rfl,_⟩:=nH hi
   split at he
   · rename_i hz
     obtain ⟨hc,rfl⟩:=au he
     refine ⟨_,jQ hu hz (eT hc),?_⟩
     rw [Nat.mul_one]
     exact nY hb
   · rename_i s hs hz
     obtain ⟨hc,rfl⟩:=au he
     refine ⟨_,jQ hu hz (eT hc),?_⟩
     split
     · have:=rV (σ:=σ) (s:=s) (i:=i.toNat) (r:=0) hb
       simpa using this
     · exact nY hb
   · cases he
 · rename_i n e id sz jj r k i hu
   obtain ⟨b,hb,rfl⟩:=J5 h
   obtain ⟨rfl,_⟩:=nH hi
   split at he
   · rename_i s hz
     obtain ⟨hc,rfl⟩:=au he
     refine ⟨_,jQ hu hz (eT hc),?_⟩
     rw [Nat.add_assoc]
     exact rV hb
   · cases he
 · rename_i e id off len cap k i hu
   obtain ⟨b,hb,rfl⟩:=vsl h
   obtain ⟨rfl,_⟩:=nH hi
   split at he
   · rename_i hz
     obtain ⟨hc,rfl⟩:=au he
     refine ⟨_,kU hu hz (eT hc),?_⟩
     rw [Nat.mul_one]
     exact nY hb
   · rename_i s hs hz
     obtain ⟨hc,rfl⟩:=au he
     refine ⟨_,kU hu hz (eT hc),?_⟩
     split
     · have:=rV (σ:=σ) (s:=s) (i:=i.toNat) (r:=0) hb
       simpa using this
     · exact nY hb
   · cases he
 · rename_i e id s off len mx k i hu
   obtain ⟨rfl,_⟩:=nH hi
   split at he
   · rename_i z hz
     split at he
     · rename_i hzs
       obtain ⟨hc,rfl⟩:=au he
       have hzs:=of_decide_eq_true hzs
       subst hzs
       have hr:=eT hc
       rcases Ut h with ⟨b,cap,hb,h2,h3,h4,h5,rfl⟩ | ⟨h1,_⟩
       · refine ⟨_,kU hu hz hr,?_⟩
         have:=rV (σ:=σ) (s:=z) (i:=off+i.toNat) (r:=0) hb
         rw [Nat.add_zero,Nat.add_mul] at this
         exact this
       · omega
     · cases he
   · cases he
 · rename_i e ts d k i hu
   obtain ⟨rfl,_⟩:=nH hi
   split at he
   · rename_i z hz
     split at he
     · rename_i hzs
       obtain ⟨hc,rfl⟩:=au he
       have hzs:=of_decide_eq_true hzs
       have hr:=eT hc
       obtain ⟨a,cap,rfl,h1,h2⟩:=vrd h
       have hlt:i.toNat<d.length:=by omega
       rcases h2 with rfl | ⟨b,o,rfl,h2,h3⟩
       · simp at hlt
       · refine ⟨_,kU hu hz hr,?_⟩
         have he:d[i.toNat]? =some (d.getD i.toNat []):=by
          rw [List.getD_eq_getElem?_getD,List.getElem?_eq_getElem hlt]; rfl
         obtain ⟨ys,g1,g2⟩:=h3 _ _ he
         rw [hzs]
         exact Og h2 g1 g2
     · cases he
   · cases he
 · rename_i n e ts d off k i hu
   obtain ⟨b,o,ys,rfl,h1,h2,h3⟩:=vrp h
   obtain ⟨rfl,_⟩:=nH hi
   split at he
   · rename_i s hz
     obtain ⟨hc,rfl⟩:=au he
     refine ⟨_,jQ hu hz (eT hc),?_⟩
     rw [Nat.add_assoc]
     exact Og h1 h2 h3
   · cases he
 · cases he

theorem Hw {t:TypeId} {x i v:V} {a j:Value} (he:Gives (KI P t x i) v) (h:aQ σ x a) (hi:aQ σ i j):
 ∃ y,(Instr.index t a j).run P w= .ok y w∧aQ σ v y:=by
 unfold KI at he
 split at he
 · rename_i n e c k i hu
   obtain ⟨xs,rfl,hxs⟩:=vag h
   obtain ⟨rfl,_⟩:=nH hi
   split at he
   · rename_i s ag hz ha
     cases ag with
     | true=>
       simp only at he
       split at he
       · rename_i c' hs
         obtain ⟨hc,rfl⟩:=au he
         have hr:=eT hc
         obtain ⟨h2,h3⟩:=iJ hs hxs
         refine ⟨_,?_,_,rfl,h2⟩
         simp only [Instr.index,asIntOf,Sem.run_bind,Sem.run_pure,Result.andThen_ok,run_underlying hu,hr.1,hr.2,and_self,if_true,run_sizeOf hz]
         rw [zM hz ha xs h3 (by simp)]
         simp
       · cases he
     | false=>
       simp only at he
       split at he
       · rename_i chk l hg
         split at he
         · obtain ⟨hc,rfl⟩:=au he
           obtain ⟨hc1,hc2⟩:=eQ hc
           have hr:=eT hc1
           obtain ⟨y,hy,hl⟩:=lC hg hc2 hxs
           refine ⟨y,?_,hl.xU⟩
           simp only [Instr.index,asIntOf,Sem.run_bind,Sem.run_pure,Result.andThen_ok,run_underlying hu,hr.1,hr.2,and_self,if_true,run_sizeOf hz,Nat.mul_one]
           simp [part,jB ha,hy]
         · cases he
       · cases he
   · cases he
 · rename_i s k i hu
   obtain ⟨_,e⟩:=h
   cases e
   obtain ⟨rfl,_⟩:=nH hi
   obtain ⟨hc,rfl⟩:=au he
   have hr:=eT hc
   have hlt:i.toNat<s.size:=by omega
   refine ⟨.int .u8 ((s[i.toNat]'hlt).toNat:Int),?_,?_⟩
   · simp [Instr.index,asIntOf,run_underlying hu,hr.1,hlt]
   · have e:s.data.toList.getD i.toNat 0=s[i.toNat]'hlt:=by
      have:i.toNat<s.data.toList.length:=by simpa using hlt
      rw [List.getD_eq_getElem?_getD,List.getElem?_eq_getElem this]
      rfl
     rw [e]
     refine dN ?_
     have:=(s[i.toNat]'hlt).toNat_lt
     simp [jm]
     omega
 · cases he

theorem vZ {k:IntKind} {i:Int} {y:Nat} {c:BoundsCode} (h0:0≤i) (h1:i≤(y:Int)):(Instr.sliceBound (.int k i) y c).run P w= .ok i.toNat w:=by
 simp [Instr.sliceBound,asIntOf,h0,h1]

theorem fU {d:Int} {x:Option V} {a:Option Value} {n:Int} (h:bnd d x=some n) (hr:(x=none∧a=none)∨ ∃ v y,x=some v∧a=some y∧aQ σ v y):
 (a=none∧n=d)∨ ∃ k,a=some (.int k n):=by
 rcases hr with ⟨rfl,rfl⟩ | ⟨v,y,rfl,rfl,hv⟩
 · simp only [bnd,Option.some.injEq] at h
   exact .inl ⟨rfl,h.symm⟩
 · unfold bnd at h
   split at h
   · rename_i h0; cases h0
   · rename_i k m h0
     cases h0
     cases h
     obtain ⟨rfl,_⟩:=nH hv
     exact .inr ⟨k,rfl⟩
   · cases h

theorem j4 {sl:Bool} {len cap:Nat} {lo hi:Option Value} {l h:Int} (hlo:(lo=none∧l=0)∨ ∃ k,lo=some (.int k l)) (hhi:(hi=none∧h=(len:Int))∨ ∃ k,hi=some (.int k h))
 (h0:0≤h) (h1:h≤(cap:Int)) (h2:0≤l) (h3:l≤h):
 (Instr.sliceBounds sl len cap lo hi none).run P w= .ok (l.toNat,h.toNat,cap) w:=by
 have hl:l≤((h.toNat:Nat):Int):=by omega
 rcases hlo with ⟨rfl,rfl⟩ | ⟨k,rfl⟩<;> rcases hhi with ⟨rfl,rfl⟩ | ⟨k',rfl⟩
 · simp [Instr.sliceBounds]
 · simp [Instr.sliceBounds,vZ h0 h1]
 · simp [Instr.sliceBounds,vZ h2 h3]
 · simp [Instr.sliceBounds,vZ h0 h1,vZ h2 hl]

theorem EP {chk:List Bool} {b:Bool} {v w x:V} (h:Gives (.br chk b v w) x):allT chk∧x=if b then v else w:=by
 cases h with
 | brT h=> exact ⟨h,rfl⟩
 | brF h=> exact ⟨h,rfl⟩

theorem EG {t:TypeId} {x v:V} {lo hi mx:Option V} {a:Value} {l h m:Option Value} (he:Gives (EF P t x lo hi mx) v) (hx:aQ σ x a)
 (hlo:(lo=none∧l=none)∨ ∃ v y,lo=some v∧l=some y∧aQ σ v y) (hhi:(hi=none∧h=none)∨ ∃ v y,hi=some v∧h=some y∧aQ σ v y)
 (hmx:mx=none→m=none):
 ∃ y,(Instr.sliceAt t a l h m).run P w= .ok y w∧aQ σ v y:=by
 unfold EF at he
 split at he
 · cases he
 · cases hmx rfl
   split at he
   · rename_i n e id off hu
     obtain ⟨b,hb,rfl⟩:=MK hx
     split at he
     · rename_i s l' h' hz hbl hbh
       obtain ⟨hc,rfl⟩:=EP he
       have c1:0≤h':=of_decide_eq_true (hc _ (by simp))
       have c2:h'≤(n:Int):=of_decide_eq_true (hc _ (by simp))
       have c3:0≤l':=of_decide_eq_true (hc _ (by simp))
       have c4:l'≤h':=of_decide_eq_true (hc _ (by simp))
       have hbs:=j4 (P:=P) (w:=w) (sl:=false) (len:=n) (cap:=n) (fU hbl hlo) (fU hbh hhi) c1 c2 c3 c4
       refine ⟨.slice (some (if n=l'.toNat then ⟨b,off,none⟩ else ⟨b,off+l'.toNat*s,none⟩)) (h'.toNat - l'.toNat) (n - l'.toNat),?_,?_⟩
       · simp [Instr.sliceAt,run_underlying hu,Instr.sureAddr,hbs,run_sizeOf hz,addr_add]
       · by_cases hl:l'=(n:Int)
         · have:n=l'.toNat:=by omega
           rw [decide_eq_true hl,if_pos rfl,if_pos this]
           exact I4 hb
         · have: ¬ n=l'.toNat:=by omega
           rw [decide_eq_false hl,if_neg (by simp),if_neg this]
           exact I4 hb
     · cases he
   · rename_i e id off len cap hu
     obtain ⟨b,hb,rfl⟩:=vsl hx
     split at he
     · rename_i s l' h' hz hbl hbh
       obtain ⟨hc,rfl⟩:=EP he
       have c1:0≤h':=of_decide_eq_true (hc _ (by simp))
       have c2:h'≤(cap:Int):=of_decide_eq_true (hc _ (by simp))
       have c3:0≤l':=of_decide_eq_true (hc _ (by simp))
       have c4:l'≤h':=of_decide_eq_true (hc _ (by simp))
       have hbs:=j4 (P:=P) (w:=w) (sl:=true) (len:=len) (cap:=cap) (fU hbl hlo) (fU hbh hhi) c1 c2 c3 c4
       refine ⟨.slice (some (if cap=l'.toNat then ⟨b,off,none⟩ else ⟨b,off+l'.toNat*s,none⟩)) (h'.toNat - l'.toNat) (cap - l'.toNat),?_,?_⟩
       · simp only [Instr.sliceAt,Sem.run_bind,run_underlying hu,Result.andThen_ok,Instr.slice,hbs,run_sizeOf hz,Sem.run_pure]
         congr 2
         split<;> simp [addr_add]
       · by_cases hl:l'=(cap:Int)
         · have:cap=l'.toNat:=by omega
           rw [decide_eq_true hl,if_pos rfl,if_pos this]
           exact I4 hb
         · have: ¬ cap=l'.toNat:=by omega
           rw [decide_eq_false hl,if_neg (by simp),if_neg this]
           exact I4 hb
     · cases he
   · rename_i e id s off len cap hu
     split at he
     · rename_i z l' h' hz hbl hbh
       split at he
       · rename_i hzs
         obtain ⟨hc,rfl⟩:=au he
         have hzs:=of_decide_eq_true hzs
         subst hzs
         have c1:0≤h':=of_decide_eq_true (hc _ (by simp))
         have c2:h'≤(cap:Int):=of_decide_eq_true (hc _ (by simp))
         have c3:0≤l':=of_decide_eq_true (hc _ (by simp))
         have c4:l'≤h':=of_decide_eq_true (hc _ (by simp))
         rcases Ut hx with ⟨b,cp,hb,h2,h3,h4,h5,rfl⟩ | ⟨h1,h2,h3⟩
         · have hbs:=j4 (P:=P) (w:=w) (sl:=true) (len:=len) (cap:=cp) (fU hbl hlo) (fU hbh hhi) c1 (by omega) c3 c4
           refine ⟨.slice (some (if cp=l'.toNat then ⟨b,off*z,none⟩ else ⟨b,off*z+l'.toNat*z,none⟩)) (h'.toNat - l'.toNat) (cp - l'.toNat),?_,?_⟩
           · simp only [Instr.sliceAt,Sem.run_bind,run_underlying hu,Result.andThen_ok,Instr.slice,hbs,run_sizeOf hz,Sem.run_pure]
             congr 2
             split<;> simp [addr_add]
           · by_cases hl:cp=l'.toNat
             · rw [if_pos hl]
               by_cases h0:l'.toNat=0
               · have:=Ba (off:=off+l'.toNat) (len:=h'.toNat - l'.toNat) (mx:=cap - l'.toNat) (cap:=cp - l'.toNat) hb (by rw [← h2]; congr 1; omega) (by omega) (by omega) (by omega)
                 rw [h0,Nat.add_zero] at this
                 rw [h0,Nat.add_zero]
                 exact this
               · have e1:h'.toNat - l'.toNat=0:=by omega
                 have e2:cap - l'.toNat=0:=by omega
                 have e3:cp - l'.toNat=0:=by omega
                 rw [e1,e2,e3]
                 exact ⟨rfl, .inr ⟨rfl,rfl, .inr ⟨by omega,_,rfl⟩⟩⟩
             · rw [if_neg hl,← Nat.add_mul]
               exact Ba hb (by rw [← h2]; congr 1; omega) (by omega) (by omega) (by omega)
         · subst h1; subst h2
           have hl0:l'=0:=by omega
           have hh0:h'=0:=by omega
           subst hl0; subst hh0
           have key: ∀ a,(Instr.sliceAt t (.slice a 0 0) l h none).run P w= .ok (.slice a 0 0) w:=by
            intro a
            have hbs:=j4 (P:=P) (w:=w) (sl:=true) (len:=0) (cap:=0) (fU hbl hlo) (fU hbh hhi) c1 (by omega) c3 c4
            simp only [Instr.sliceAt,Sem.run_bind,run_underlying hu,Result.andThen_ok,Instr.slice,hbs,run_sizeOf hz,Sem.run_pure]
            simp
           rcases h3 with ⟨h3,rfl⟩ | ⟨h3,a,rfl⟩
           · exact ⟨_,key _,rfl, .inr ⟨rfl,rfl, .inl ⟨h3,rfl⟩⟩⟩
           · exact ⟨_,key _,rfl, .inr ⟨rfl,rfl, .inr ⟨h3,a,rfl⟩⟩⟩
       · cases he
     · cases he
   · rename_i e ts d hu
     split at he
     · rename_i z l' h' hz hbl hbh
       split at he
       · rename_i hzs
         obtain ⟨hc,rfl⟩:=au he
         have hzs:=of_decide_eq_true hzs
         have c1:0≤h':=of_decide_eq_true (hc _ (by simp))
         have c2:h'≤(d.length:Int):=of_decide_eq_true (hc _ (by simp))
         have c3:0≤l':=of_decide_eq_true (hc _ (by simp))
         have c4:l'≤h':=of_decide_eq_true (hc _ (by simp))
         obtain ⟨a,cp,rfl,g1,g2⟩:=vrd hx
         have hbs:=j4 (P:=P) (w:=w) (sl:=true) (len:=d.length) (cap:=cp) (fU hbl hlo) (fU hbh hhi) c1 (by omega) c3 c4
         have hlen:((d.drop l'.toNat).take (h'.toNat - l'.toNat)).length=h'.toNat - l'.toNat:=by
          rw [List.length_take,List.length_drop]; omega
         refine ⟨.slice (if cp=l'.toNat then a else a.map (·.add (l'.toNat*z))) (h'.toNat - l'.toNat) (cp - l'.toNat),?_,?_⟩
         · simp only [Instr.sliceAt,Sem.run_bind,run_underlying hu,Result.andThen_ok,Instr.slice,hbs,run_sizeOf hz,Sem.run_pure]
         · suffices hs:aQ σ (.u (.one (.rd ts ((d.drop l'.toNat).take (h'.toNat - l'.toNat))))) (.slice (if cp=l'.toNat then a else a.map (·.add (l'.toNat*z))) ((d.drop l'.toNat).take (h'.toNat - l'.toNat)).length (cp - l'.toNat)) by
            rw [hlen] at hs; exact hs
           refine ahY (by omega) ?_
           rcases g2 with rfl | ⟨b,o,rfl,g2,g3⟩
           · left; simp
           · by_cases hlh:h'.toNat - l'.toNat=0
             · left; rw [hlh]; simp
             · right
               rw [if_neg (by omega)]
               refine ⟨b,o+l'.toNat*z,by simp [addr_add],g2,?_⟩
               intro i e he
               rw [List.getElem?_take] at he
               split at he
               · rw [List.getElem?_drop] at he
                 obtain ⟨ys,k1,k2⟩:=g3 _ _ he
                 refine ⟨ys,k1,?_⟩
                 rw [hzs,Nat.add_assoc,← Nat.add_mul]
                 exact k2
               · cases he
       · cases he
     · cases he
   · rename_i n e ts d off hu
     split at he
     · rename_i k r0 k' b c m r1 hul hsp
       have hl0:l=none:=by
        rcases hlo with ⟨_,e⟩ | ⟨_,_,e,_⟩
        · exact e
        · cases e
       have hh0:h=none:=by
        rcases hhi with ⟨_,e⟩ | ⟨_,_,e,_⟩
        · exact e
        · cases e
       subst hl0 hh0
       split at he
       · rename_i hd hz
         obtain ⟨rfl,rfl,hn0,hnm⟩:=of_decide_eq_true hd
         obtain ⟨_,rfl⟩:=au he
         obtain ⟨a,o,ys,rfl,him,hds,hcs⟩:=vrp hx
         have hbs:=j4 (P:=P) (w:=w) (sl:=false) (len:=c) (cap:=c) (lo:=none) (hi:=none) (l:=0) (h:=(c:Int)) (.inl ⟨rfl,rfl⟩) (.inl ⟨rfl,rfl⟩) (by omega) (by omega) (by omega) (by omega)
         obtain ⟨_,h2,h3⟩:=dm hsp ((aX.iH (σ:=σ)).2 hds)
         obtain ⟨zs,rs,e1,⟨e2,_,e3,e4⟩,_⟩:=h2
         have hlen:((List.range c).map fun i=> [D.i ((digit b m i:Nat):Int)]).length=c:=by simp
         refine ⟨.slice (some ⟨a,o+off,none⟩) c c,?_,?_⟩
         · have hne: ¬ c=0:=by omega
           simp [Instr.sliceAt,run_underlying hu,Instr.sureAddr,hbs,run_sizeOf hz,addr_add,hne]
         · suffices hs:aQ σ (.u (.one (.rd [.int k] ((List.range c).map fun i=> [D.i ((digit b m i:Nat):Int)])))) (.slice (some ⟨a,o+off,none⟩) ((List.range c).map fun i=> [D.i ((digit b m i:Nat):Int)]).length c) by
            rw [hlen] at hs; exact hs
           refine ahY ⟨by rw [hlen]; exact Nat.le_refl _,hnm⟩ (.inr ⟨a,o+off,rfl,him,fun i e hi=> ?_⟩)
           have hic:i<c:=by
            have:=(List.getElem?_eq_some_iff.1 hi).1
            rw [hlen] at this
            exact this
           have hie:e= [D.i ((digit b m i:Nat):Int)]:=by
            rw [List.getElem?_map,List.getElem?_range hic] at hi
            simpa using hi.symm
           subst hie
           refine ⟨[.int k (digit b m i:Nat)],⟨[.int k (digit b m i:Nat)],[],rfl,⟨rfl,vL e3 e4 m i⟩,rfl⟩,fun j v hj=> ?_⟩
           have hj0:j=0:=by
            have:=(List.getElem?_eq_some_iff.1 hj).1
            simpa using this
           subst hj0
           have hv:v= .int k (digit b m i:Nat):=by simpa using hj.symm
           subst hv
           have:=hcs (off+i) (.int k (digit b m i:Nat)) (by
            rw [← List.getElem?_drop,e1,e2,List.getElem?_append_left (by simpa using hic),List.getElem?_map,List.getElem?_range hic]
            rfl)
           rw [show o+off+i*bP [LT.int k]+0=o+(off+i) by simp [bP,LT.sz]; omega]
           exact this
       · cases he
     · cases he
   · rename_i s hu
     split at he
     · rename_i l' h' hbl hbh
       obtain ⟨hc,rfl⟩:=au he
       have c1:0≤h':=of_decide_eq_true (hc _ (by simp))
       have c2:h'≤(s.size:Int):=of_decide_eq_true (hc _ (by simp))
       have c3:0≤l':=of_decide_eq_true (hc _ (by simp))
       have c4:l'≤h':=of_decide_eq_true (hc _ (by simp))
       obtain ⟨_,ex⟩:=hx
       cases ex
       have hbs:=j4 (P:=P) (w:=w) (sl:=false) (len:=s.size) (cap:=s.size) (fU hbl hlo) (fU hbh hhi) c1 c2 c3 c4
       refine ⟨.string (s.extract l'.toNat h'.toNat),?_,⟨rfl,rfl⟩⟩
       simp only [Instr.sliceAt,Sem.run_bind,run_underlying hu,Result.andThen_ok,Instr.slice]
       simp [hbs]
     · cases he
   · cases he

theorem SA {x:V} {a:Value} (h:aQ σ x a):aQ σ (Sz x) a:=by
 unfold Sz
 split
 · obtain ⟨b,hb,rfl⟩:=J5 h
   exact nY hb
 · exact h
theorem Hy {t:TypeId} {x v:V} {lo hi mx:Option V} {a:Value} {l h m:Option Value} (he:Gives (Vh P t x lo hi mx) v) (hx:aQ σ x a)
 (hlo:(lo=none∧l=none)∨ ∃ v y,lo=some v∧l=some y∧aQ σ v y) (hhi:(hi=none∧h=none)∨ ∃ v y,hi=some v∧h=some y∧aQ σ v y)
 (hmx:mx=none→m=none):
 ∃ y,(Instr.sliceAt t a l h m).run P w= .ok y w∧aQ σ v y:=EG he (SA hx) hlo hhi hmx

theorem eD.get {α β:Type} {R:α→β→Prop}: ∀ {l:List α} {m:List β},eD R l m→ ∀ {i:Nat} {x:α},l[i]? =some x→ ∃ y,m[i]? =some y∧R x y
 | _,_, .nil,i,x,h=> by simp at h
 | _,_, .cons a b,0,x,h=> by
   simp only [List.getElem?_cons_zero,Option.some.injEq] at h
   subst h
   exact ⟨_,by simp,a⟩
 | _,_, .cons a b,i+1,x,h=> by
   simp only [List.getElem?_cons_succ] at h ⊢
   exact b.get h

theorem Cz {x v:V} {i:Nat} {a:Value} (he:Gives (AO x i) v) (h:aQ σ x a):
 ∃ y,(Instr.extract a i).run P w= .ok y w∧aQ σ v y:=by
 unfold AO at he
 split at he
 · rename_i xs
   split at he
   · rename_i y hy
     obtain ⟨_,rfl⟩:=au he
     obtain ⟨vs,rfl,hvs⟩:=h
     obtain ⟨z,hz,hr⟩:=hvs.get hy
     exact ⟨z,by simp [Instr.extract,hz],hr⟩
   · cases he
 · cases he

theorem vv {sy:Bool} {n:Nat} (h:ckI sy n=true):jm .i64 n=true:=by
 unfold ckI at h
 split at h
 · rw [← Lx]; exact h
 · exact h

theorem Nw {sy:Bool} {t:TypeId} {x v:V} {a:Value} (he:Gives (aby sy P t x) v) (h:aQ σ x a) (ty:TypeId):
 ∃ y,(Builtin.len_ #[t] ty #[a]).run P w= .ok y w∧aQ σ v y:=by
 unfold aby at he
 split at he
 · rename_i s hu
   obtain ⟨hc,rfl⟩:=au he
   obtain ⟨_,e⟩:=h
   cases e
   exact ⟨_,by simp [Builtin.len_,run_underlying hu,goInt],dN (vv (hc (ckI sy _) (List.mem_singleton.2 rfl)))⟩
 · rename_i n e hu
   obtain ⟨hc,rfl⟩:=au he
   exact ⟨_,by simp [Builtin.len_,run_underlying hu,goInt],dN (hc _ (by simp))⟩
 · rename_i e id off n c hu
   obtain ⟨hc,rfl⟩:=au he
   obtain ⟨b,hb,rfl⟩:=vsl h
   exact ⟨_,by simp [Builtin.len_,run_underlying hu,goInt],dN (vv (hc (ckI sy _) (List.mem_singleton.2 rfl)))⟩
 · rename_i e hu
   obtain ⟨hc,rfl⟩:=au he
   obtain ⟨_,e⟩:=h
   cases e
   exact ⟨_,by simp [Builtin.len_,run_underlying hu,goInt],dN rfl⟩
 · rename_i e id s off n mx hu
   obtain ⟨hc,rfl⟩:=au he
   have hk:=vv (hc (ckI sy _) (List.mem_singleton.2 rfl))
   rcases Ut h with ⟨b,cap,hb,_,_,_,_,rfl⟩ | ⟨rfl,rfl,⟨_,rfl⟩ | ⟨_,a,rfl⟩⟩
   · exact ⟨_,by simp [Builtin.len_,run_underlying hu,goInt],dN hk⟩
   · exact ⟨_,by simp [Builtin.len_,run_underlying hu,goInt],dN hk⟩
   · exact ⟨_,by simp [Builtin.len_,run_underlying hu,goInt],dN hk⟩
 · rename_i e ts d hu
   obtain ⟨hc,rfl⟩:=au he
   obtain ⟨a,cap,rfl,_,_⟩:=vrd h
   exact ⟨_,by simp [Builtin.len_,run_underlying hu,goInt],dN (vv (hc (ckI sy _) (List.mem_singleton.2 rfl)))⟩
 · cases he

theorem Iz {W:World} {b o:Nat} {ys zs:List Value} (h1:eH W b o ys) (h2:eH W b (o+ys.length) zs):eH W b o (ys++zs):=by
 intro j v hj
 by_cases hlt:j<ys.length
 · rw [List.getElem?_append_left hlt] at hj; exact h1 j v hj
 · rw [List.getElem?_append_right (by omega)] at hj
   have:=h2 _ v hj
   rw [show o+ys.length+(j - ys.length)=o+j by omega] at this
   exact this
theorem aT.len {W:World} {im:Nat→Prop} {ts:List LT} {e:List D} {ys:List Value} (h:aT W im ts e ys):ys.length=bP ts:=by
 have h2:aX (⟨fun _=> none,fun _=> 0,W,im⟩:Sg) (iX ts e) ys:=aX.iH.2 h
 rw [h2.len,X9]
theorem NI {W:World} {im:Nat→Prop} {t:LT} {b:Nat}: ∀ (n o:Nat) (f:Nat→D),(∀ i,i<n→ ∃ ys,aT W im [t] [f i] ys∧eH W b (o+i*t.sz) ys)→
 ∃ zs,aT W im (List.replicate n t) ((List.range n).map f) zs∧eH W b o zs
 | 0,o,f,_=> ⟨[],by simp [aT],fun j v hj=> by simp at hj⟩
 | n+1,o,f,h=> by
   obtain ⟨ys,h1,h2⟩:=h 0 (by omega)
   obtain ⟨zs,h3,h4⟩:=NI n (o+t.sz) (fun i=> f (i+1)) (fun i hi=> by
    obtain ⟨ys,g1,g2⟩:=h (i+1) (by omega)
    refine ⟨ys,g1,?_⟩
    rw [show o+t.sz+i*t.sz=o+(i+1)*t.sz by rw [Nat.add_mul]; omega]
    exact g2)
   have hl:ys.length=t.sz:=by rw [h1.len]; simp [bP]
   refine ⟨ys++zs,?_,Iz (by simpa using h2) (by rw [hl]; exact h4)⟩
   have e:(List.range (n+1)).map f=f 0::(List.range n).map fun i=> f (i+1):=by
    rw [List.range_succ_eq_map,List.map_cons,List.map_map]
    rfl
   rw [List.replicate_succ,e]
   simp only [aT] at h1 ⊢
   obtain ⟨a,c,e1,g1,e2⟩:=h1
   subst e2
   rw [List.append_nil] at e1
   subst e1
   exact ⟨ys,zs,rfl,g1,h3⟩

theorem HY {t:TypeId} {x v:V} {a:Value} (he:Gives (KQ P t x) v) (h:aQ σ x a):
 ∃ y,(Instr.arrayAt t a).run P w= .ok y w∧aQ σ v y:=by
 unfold KQ at he
 split at he
 · rename_i n e id off len cap hu
   obtain ⟨hc,rfl⟩:=au he
   obtain ⟨b,hb,rfl⟩:=vsl h
   have:n≤len:=of_decide_eq_true (hc _ (by simp))
   exact ⟨_,by simp [Instr.arrayAt,run_underlying hu,show ¬ len<n by omega],nY hb⟩
 · rename_i n e id s off len mx hu
   split at he
   · rename_i hd
     obtain ⟨hc,rfl⟩:=au he
     obtain ⟨_,hn⟩:=of_decide_eq_true hd
     have hle:n≤len:=of_decide_eq_true (hc _ (by simp))
     rcases Ut h with ⟨b,cap,hb,_,_,_,_,rfl⟩ | ⟨h1,_⟩
     · refine ⟨_,by simp [Instr.arrayAt,run_underlying hu,show ¬ len<n by omega]; rfl,?_⟩
       have:=rV (σ:=σ) (s:=s) (i:=off) (r:=0) hb
       simpa using this
     · omega
   · cases he
 · rename_i n e u d hu
   split at he
   · rename_i hd
     obtain ⟨hc,rfl⟩:=au he
     obtain ⟨_,hn⟩:=of_decide_eq_true hd
     have hle:n≤d.length:=of_decide_eq_true (hc _ (by simp))
     obtain ⟨a,cap,rfl,g1,g2⟩:=vrd h
     rcases g2 with rfl | ⟨b,o,rfl,g2,g3⟩
     · simp at hle; omega
     · obtain ⟨zs,k1,k2⟩:=NI (W:=σ.w) (im:=σ.im) (t:=u) (b:=b) n o (fun j=> H9 (d.getD j [])) (fun i hi=> by
        have he:d[i]? =some (d.getD i []):=by
         rw [List.getD_eq_getElem?_getD,List.getElem?_eq_getElem (by omega)]; rfl
        obtain ⟨ys,q1,q2⟩:=g3 _ _ he
        have hsz:bP [u]=u.sz:=by simp [bP]
        rw [hsz] at q2
        refine ⟨ys,?_,q2⟩
        simp only [aT] at q1 ⊢
        obtain ⟨a1,c1,e1,r1,r2⟩:=q1
        exact ⟨a1,c1,e1,r1,r2⟩)
       refine ⟨_,by simp [Instr.arrayAt,run_underlying hu,show ¬ d.length<n by omega]; rfl,?_⟩
       have:=Og (off:=0) g2 k1 k2
       simpa using this
   · cases he
 · cases he

end
end Vx

/-
  An executor of Go code on values of its own: new aggregates; all operations that touch no memory.
-/
namespace Vx
open Go Go.RowKit

theorem NL (off:Nat): ∀ (l:List Value) (k:Nat) (cs:Array Value),off+k+l.length≤cs.size→
 ((l.zipIdx k).foldl (fun (cs:Array Value) (p:Value × Nat)=> cs.setIfInBounds (off+p.2) p.1) cs)=(cs.toList.take (off+k)++l++cs.toList.drop (off+k+l.length)).toArray
 | [],k,cs,h=> by simp
 | v::l,k,cs,h=> by
   simp only [List.length_cons] at h
   rw [List.zipIdx_cons,List.foldl_cons,NL off l (k+1) (cs.setIfInBounds (off+k) v) (by simp; omega)]
   congr 1
   have e:=list_seg_step cs.toList (off+k) v l (by simpa using (by omega:off+k+(l.length+1)≤cs.size))
   simpa [Array.toList_setIfInBounds,Nat.add_assoc] using e

theorem uM {σ:Sg} {x:U} {new:List L} {y:Value} (h:x.parts=some new) (hv:mP σ x y):aX σ new y.cells.toList:=by
 cases x with
 | one l=>
   simp only [U.parts,Option.some.injEq] at h
   subst h
   obtain ⟨h1,h2⟩:=hv
   have:y.cells= #[y]:=by cases y<;> first | rfl | simp [oneCell] at h1
   rw [this]
   exact ⟨[y],[],by simp,h2,rfl⟩
 | ag c=>
   cases c with
   | ps l=>
     simp only [U.parts,Option.some.injEq] at h
     subst h
     obtain ⟨xs,rfl,hc⟩:=hv
     exact hc
   | big=> simp [U.parts] at h
   | row=> simp [U.parts] at h
   | dead=> simp [U.parts] at h

theorem xq {σ:Sg} {cells a q m z new:List L} {off s:Nat} {xs ys:List Value} (h1:iO cells off=some (a,q)) (h2:iO q s=some (m,z))
 (hn:Cr new=s) (hx:aX σ cells xs) (hy:aX σ new ys):
 aX σ (a++new++z) (xs.take off++ys++xs.drop (off+s))∧off+s≤xs.length∧ys.length=s:=by
 obtain ⟨ha,hq,hl⟩:=dm h1 hx
 obtain ⟨_,hz,hl2⟩:=dm h2 hq
 simp only [List.length_drop] at hl2
 rw [List.drop_drop] at hz
 exact ⟨(ha.append hy).append hz,by omega,hy.len.trans hn⟩

section
variable {P:Program} {w:World} {σ:Sg}

theorem oO {place:Nat→Option (Nat × Nat)} {mplace:Nat→Option (Nat × Nat)} (hp: ∀ i p,place i=some p→mplace i=some p):
 ∀ {parts:List (Nat × V)} {cells l:List L} {vals:List (Nat × Value)} {xs:List Value},ND place cells parts=some l→aX σ cells xs→
   eD (fun (p:Nat × V) (q:Nat × Value)=> p.1=q.1∧aQ σ p.2 q.2) parts vals→
   ∃ ys:List Value,Instr.fill mplace xs.toArray vals=some ys.toArray∧aX σ l ys
 | [],cells,l,vals,xs,h,hx,hv=> by
   cases hv
   cases h
   exact ⟨xs,rfl,hx⟩
 | (i,v)::r,cells,l,vals,xs,h,hx,hv=> by
   cases hv with
   | cons hq hr=>
     rename_i q vals'
     obtain ⟨j,y⟩:=q
     obtain ⟨hij,hvy⟩:=hq
     simp only at hij hvy
     subst hij
     simp only [ND] at h
     split at h
     · rename_i off s x hpl
       split at h
       · rename_i new hnew
         split at h
         · rename_i hs
           split at h
           · rename_i a q h1
             split at h
             · rename_i m z h2
               have hy:=uM hnew hvy
               obtain ⟨hrel,hle,hyl⟩:=xq h1 h2 hs hx hy
               obtain ⟨ys,hf,hys⟩:=oO hp h hrel hr
               refine ⟨ys,?_,hys⟩
               simp only [Instr.fill,hp _ _ hpl]
               have hsz:y.cells.size=s:=by simpa using hyl
               have c1: ¬ ((decide (y.cells.size≠s) || decide (off+y.cells.size > xs.toArray.size))=true):=by
                simp [hsz]; omega
               rw [if_neg c1]
               have hfold:=NL off y.cells.toList 0 xs.toArray (by simp; omega)
               have e:y.cells.zipIdx.foldl (fun (cs:Array Value) (p:Value × Nat)=> cs.setIfInBounds (off+p.2) p.1) xs.toArray=
                (xs.take off++y.cells.toList++xs.drop (off+s)).toArray:=by
                rw [← Array.foldl_toList,Array.toList_zipIdx,hfold]
                simp [hsz]
               rw [← hf,← e]
             · cases h
           · cases h
         · cases h
       · cases h
     · cases h

theorem Pm {α β:Type} (f:α→Sem β) (g:α→β): ∀ (l:List α),(∀ x∈l,(f x).run P w= .ok (g x) w)→(l.mapM f).run P w= .ok (l.map g) w
 | [],_=> by simp
 | x::l,h=> by simp [List.mapM_cons,h x (by simp),Pm f g l fun y hy=> h y (by simp [hy])]

theorem Ho {t:TypeId} {parts:List (Nat × V)} {v:V} {vals:Array (Nat × Value)} (he:Gives (KE P t parts) v)
 (h:eD (fun (p:Nat × V) (q:Nat × Value)=> p.1=q.1∧aQ σ p.2 q.2) parts vals.toList):
 ∃ y,(Instr.build t vals).run P w= .ok y w∧aQ σ v y:=by
 unfold KE at he
 split at he
 · rename_i z hz hsized
   split at he
   · rename_i l hl
     obtain ⟨_,rfl⟩:=au he
     obtain ⟨zv,hzr,hzp,_⟩:=zZ (w:=w) (σ:=σ) hz
     unfold sized at hsized
     split at hsized
     · rename_i fs hu
       have hsz: ∀ f∈fs.toList,jG P f.type=some ((jG P f.type).getD 0):=by
        intro f hf
        have:=List.all_eq_true.1 hsized f hf
        obtain ⟨n,hn⟩:=Option.isSome_iff_exists.1 this
        simp [hn]
       have hmap:(fs.mapM fun f=> do pure (f.offset,← Go.sizeOf f.type):Sem (Array (Nat × Nat))).run P w= .ok (fs.map fun f=> (f.offset,(jG P f.type).getD 0)) w:=by
        rw [Array.mapM_eq_mapM_toList]
        simp only [Sem.run_map]
        rw [Pm _ (fun f=> (f.offset,(jG P f.type).getD 0)) fs.toList]
        · simp only [Result.andThen_ok]
          congr 1
          apply Array.toList_inj.1
          simp
        · intro f hf
          simp [run_sizeOf (hsz f hf)]
       obtain ⟨ys,hf,hys⟩:=oO (σ:=σ) (mplace:=((fs.map fun f=> (f.offset,(jG P f.type).getD 0))[·]?)) (by
        intro i p hp
        simp only [placeOf,hu] at hp
        cases hfi:fs[i]? with
        | none=> simp [hfi] at hp
        | some f=>
          simp only [hfi] at hp
          cases hft:jG P f.type with
          | none=> simp [hft] at hp
          | some s=> simp only [hft] at hp; simp [hfi,hft,hp]) hl hzp h
       refine ⟨.agg ys.toArray,?_,ys,rfl,hys⟩
       rw [Array.toArray_toList] at hf
       simp only [Instr.build,Sem.run_bind,hzr,Result.andThen_ok,run_underlying hu,hmap,hf,Sem.run_pure]
     · rename_i n e hu
       obtain ⟨s,hs⟩:=Option.isSome_iff_exists.1 hsized
       obtain ⟨ys,hf,hys⟩:=oO (σ:=σ) (mplace:=fun i=> some (i*s,s)) (by
        intro i p hp
        simp only [placeOf,hu,hs] at hp
        exact hp) hl hzp h
       refine ⟨.agg ys.toArray,?_,ys,rfl,hys⟩
       rw [Array.toArray_toList] at hf
       simp only [Instr.build,Sem.run_bind,hzr,Result.andThen_ok,run_underlying hu,run_sizeOf hs,hf,Sem.run_pure]
     · cases hsized
   · cases he
 · cases he

theorem eD.map_map {α β γ:Type} {R:β→γ→Prop} (f:α→β) (g:α→γ): ∀ (l:List α),(∀ x∈l,R (f x) (g x))→eD R (l.map f) (l.map g)
 | [],_=> .nil
 | x::l,h=> .cons (h x (by simp)) (eD.map_map f g l fun y hy=> h y (by simp [hy]))

theorem acH {e:Operand→V} {ρ:Operand→Value} (h: ∀ x,aQ σ (e x) (ρ x)) (o:Option Operand):
 (o.map e=none∧o.map ρ=none)∨ ∃ v y,o.map e=some v∧o.map ρ=some y∧aQ σ v y:=by
 cases o with
 | none=> exact .inl ⟨rfl,rfl⟩
 | some x=> exact .inr ⟨_,_,rfl,rfl,h x⟩

theorem rz: ∀ {l:List V} {vs:List Value} {r:List (Nat × Nat)},Kl l=some r→eD (aQ σ) l vs→eD (fun (p:Nat × Nat) v=> ∃ b,σ p.1=some b∧v=Value.pointer (some ⟨b,p.2,none⟩)) r vs
 | [],_,r,h, .nil=> by cases h; exact .nil
 | v::l,_,r,h, .cons hv hl=> by
   unfold Kl at h
   split at h
   · rename_i hnil; cases hnil
   · rename_i id off l' hcons
     cases hcons
     split at h
     · rename_i r' hr
       cases h
       obtain ⟨b,hb,e⟩:=MK hv
       exact .cons ⟨b,hb,e⟩ (rz hr hl)
     · cases h
   · cases h

theorem KL {fn:Fn} {first caps:List V} {v:V} {fs cs:Array Value} (he:Gives (RN fn first caps) v) (hf:eD (aQ σ) first fs.toList) (hc:eD (aQ σ) caps cs.toList):
 aQ σ v (.func fn fs cs):=by
 unfold RN at he
 split at he
 · rename_i f
   have hfs:fs= #[]:=by
    have:fs.toList= []:=by cases hfl:fs.toList with
     | nil=> rfl
     | cons a l=> rw [hfl] at hf; cases hf
    simpa using this
   subst hfs
   split at he
   · rename_i hcaps
     obtain ⟨_,rfl⟩:=au he
     have h:=rz hcaps hc
     have hcs:cs= #[]:=by
      have:cs.toList= []:=by cases hcl:cs.toList with
       | nil=> rfl
       | cons a l=> rw [hcl] at h; cases h
      simpa using this
     subst hcs
     exact ⟨rfl,rfl⟩
   · rename_i l hcaps
     obtain ⟨_,rfl⟩:=au he
     exact ⟨rfl,cs.toList,by simp,rz hcaps hc⟩
   · cases he
 · cases he

theorem YX {sy:Bool} {o:Oper} {e:Operand→V} {ρ:Operand→Value} {v:V} (he:Gives (EC sy P o.op e) v) (h: ∀ x,aQ σ (e x) (ρ x)):
 ∃ y,(execOp ρ o).run P w= .ok (.value y) w∧aQ σ v y:=by
 have lift: ∀ {s:Sem Value},(∃ y,s.run P w= .ok y w∧aQ σ v y)→ ∃ y,(do pure (Next.value (← s)):Sem Next).run P w= .ok (.value y) w∧aQ σ v y:=by
  rintro s ⟨y,hy,hv⟩
  exact ⟨y,by simp [hy],hv⟩
 obtain ⟨dst,op,type,pos,after,guard⟩:=o
 unfold EC at he
 simp only at he
 split at he
 · obtain ⟨_,rfl⟩:=au he
   exact ⟨_,rfl,h _⟩
 · obtain ⟨_,rfl⟩:=au he
   exact ⟨_,rfl,h _⟩
 · rename_i c a b
   split at he
   · rename_i t ht
     obtain ⟨_,rfl⟩:=EP he
     have hc:=h c
     rw [ht] at hc
     have hb:=GZ hc
     refine ⟨if t=true then ρ a else ρ b,?_,?_⟩
     · simp only [execOp,hb,asBool]
       rfl
     · cases t
       · exact h b
       · exact h a
   · cases he
 · rename_i x
   split at he
   · rename_i id off hx
     obtain ⟨_,rfl⟩:=au he
     have hc:=h x
     rw [hx] at hc
     obtain ⟨b,hb,e1⟩:=MK hc
     exact ⟨_,by simp only [execOp,e1]; rfl,nY hb⟩
   · rename_i id s i r hx
     obtain ⟨_,rfl⟩:=au he
     have hc:=h x
     rw [hx] at hc
     obtain ⟨b,hb,e1⟩:=J5 hc
     exact ⟨_,by simp only [execOp,e1]; rfl,rV hb⟩
   · rename_i ts d off hx
     obtain ⟨_,rfl⟩:=au he
     have hc:=h x
     rw [hx] at hc
     obtain ⟨b,o,ys,e1,h1,h2,h3⟩:=vrp hc
     exact ⟨_,by simp only [execOp,e1]; rfl,Og h1 h2 h3⟩
   · cases he
 · exact lift (KD he (h _) (h _))
 · exact lift (RU he (h _))
 · exact lift (KF he (h _))
 · exact lift (y7 he (h _))
 · exact lift (Hu he (h _))
 · exact lift (y8 he (h _) (h _))
 · exact lift (Hw he (h _) (h _))
 · rename_i t x lo hi mx
   exact lift (Hy he (h _) (acH h lo) (acH h hi) (by cases mx<;> simp))
 · exact lift (Cz he (h _))
 · rename_i t ps
   refine lift (Ho (vals:=ps.map fun p=> (p.1,ρ p.2)) he ?_)
   rw [Array.toList_map]
   exact eD.map_map _ _ _ fun p _=> ⟨rfl,h _⟩
 · exact lift (HY he (h _))
 · rename_i fn first caps
   exact ⟨_,rfl,KL he (by
    rw [Array.toList_map]
    exact eD.map_map _ _ _ fun x _=> h x) (by
    rw [Array.toList_map]
    exact eD.map_map _ _ _ fun x _=> h x)⟩
 · rename_i args argTypes
   split at he
   · rename_i x t hx ht
     have e1:args= #[x]:=by rw [← Array.toArray_toList (xs:=args),hx]
     have e2:argTypes= #[t]:=by rw [← Array.toArray_toList (xs:=argTypes),ht]
     subst e1; subst e2
     obtain ⟨y,hy,hv⟩:=Nw (w:=w) he (h _) type
     refine ⟨y,?_,hv⟩
     simp only [execOp,resolve,invoke,Sem.run_bind,Sem.run_pure,Result.andThen_ok,Go.builtin]
     simp [hy]
   · cases he
 · rename_i args ats
   split at he
   · rename_i x y hx
     have e1:args= #[x,y]:=by rw [← Array.toArray_toList (xs:=args),hx]
     subst e1
     unfold ahE at he
     split at he
     · rename_i k n k' m h1 h2
       split at he
       · rename_i hk
         have hk:=of_decide_eq_true hk
         subst hk
         obtain ⟨_,rfl⟩:=au he
         have v1:=h x
         have v2:=h y
         rw [h1] at v1
         rw [h2] at v2
         obtain ⟨e1,i1⟩:=nH v1
         obtain ⟨e2,i2⟩:=nH v2
         refine ⟨.int k (bif decide (m > n) then m else n),?_,?_⟩
         · simp only [execOp,resolve,invoke,Sem.run_bind,Sem.run_pure,Result.andThen_ok,Go.builtin]
           simp [Builtin.max_,Builtin.max2,e1,e2]
         · by_cases hmn:m > n
           · rw [decide_eq_true hmn]; exact ⟨rfl,rfl,i2⟩
           · rw [decide_eq_false hmn]; exact ⟨rfl,rfl,i1⟩
       · cases he
     · cases he
   · cases he
 · cases he
end
end Vx

/-
  An executor of Go code on values of its own: memory.
-/
namespace Vx
open Go Go.RowKit

def dR (h:Hp) (i:Nat):Prop:= ∃ e,hg h i=some ⟨e, .dead⟩

def fA (w:World) (n:Nat) (xs:List Value) (t:TypeId):Prop:= ∃ fr:Nat × Nat,w.heap[n]? =some (.cells xs.toArray t fr)∧(fr=(0,0)∨xs.length≤fr.1)

theorem fA.Nj {w w':World} {n:Nat} {xs:List Value} {t:TypeId} (h:fA w n xs t) (he:w'.heap[n]? =w.heap[n]?):fA w' n xs t:=by
 obtain ⟨fr,h1,h2⟩:=h
 exact ⟨fr,by rw [he]; exact h1,h2⟩
theorem fA.set {w:World} {n:Nat} {xs ys:List Value} {t:TypeId} (h:fA w n xs t) (hl:ys.length=xs.length):fA (w.setRow n ys.toArray) n ys t:=by
 obtain ⟨fr,h1,h2⟩:=h
 exact ⟨fr,setRow_heap w n _ _ _ _ h1,by rw [hl]; exact h2⟩
theorem fA.elem {w:World} {n:Nat} {xs ys:List Value} {t u:TypeId} (h:fA w n xs t) (h':fA w n ys u):t=u:=by
 obtain ⟨fr,h1,_⟩:=h
 obtain ⟨fr',h2,_⟩:=h'
 rw [h1] at h2
 simp only [Option.some.injEq,Obj.cells.injEq] at h2
 exact h2.2.1
theorem jC (P:Program) (g o:Nat) (t:TypeId) (fr:Nat × Nat): ∀ (vs:List Value) (i:Nat) (cur:Array Value) (w:World),w.heap[g]? =some (.cells cur t fr)→(fr=(0,0)∨cur.size≤fr.1)→o+i+vs.length≤cur.size→
 (∀ v∈vs,v.oneCell'=true)→(storeCells ⟨g,o,none⟩ vs i).run P w= .ok () (w.setRow g (cur.toList.take (o+i)++vs++cur.toList.drop (o+i+vs.length)).toArray)
 | [],i,cur,w,hg,_,_,_=> by
   simp only [storeCells,List.append_nil,List.length_nil,Nat.add_zero,List.take_append_drop,Array.toArray_toList]
   rw [setRow_self w g cur t fr hg]
   rfl
 | v::rest,i,cur,w,hg,hfr,hl,h1=> by
   have hi:o+i<cur.size:=by simp at hl; omega
   have hadd:(⟨g,o,none⟩:Addr).add i=⟨g,o+i,none⟩:=by unfold Addr.add; split<;> simp_all
   have hcell:w.cell? ⟨g,o+i,none⟩=some cur[o+i]:=by simp [World.cell?,hg,hi]
   have hfro:w.frozen? ⟨g,o+i,none⟩=false:=by
    obtain ⟨lo,up⟩:=fr
    simp only [World.frozen?,hg,Bool.and_eq_false_iff,decide_eq_false_iff_not]
    rcases hfr with e | e
    · cases e
      exact .inr (by omega)
    · exact .inl (by simp only at e; omega)
   have hst:(store ((⟨g,o,none⟩:Addr).add i) v).run P w= .ok () (w.setRow g (cur.setIfInBounds (o+i) v)):=by
    rw [hadd,run_store P w _ v _ (h1 v (by simp)),hcell]
    simp [hfro,setCell_eq_setRow w g (o+i) cur t fr v hg]
   have ih:=jC P g o t fr rest (i+1) (cur.setIfInBounds (o+i) v) (w.setRow g (cur.setIfInBounds (o+i) v)) (setRow_heap w g cur _ t _ hg) (by simpa using hfr) (by simp at hl ⊢; omega) (fun x hx=> h1 x (by simp [hx]))
   simp only [storeCells,Sem.run_bind,hst,Result.andThen_ok,ih,setRow_setRow]
   congr 3
   have e:=list_seg_step cur.toList (o+i) v rest (by simp at hl ⊢; omega)
   simpa [Array.toList_setIfInBounds,Nat.add_assoc] using e

structure bT (ro:Nat) (σ:Sg) (h:Hp) (w:World):Prop where
 blk: ∀ id b,hg h id=some b→(∃ (n:Nat) (xs:List Value),σ id=some n∧fA w n xs b.elem∧fD σ b.c xs)∨((b.c= .dead∨ ∃ ts,b.c= .row ts [])∧σ id=none)
 inj: ∀ i j n,ro≤i→σ i=some n→σ j=some n→i=j∨dR h i∨dR h j
 live: ∀ i n,σ i=some n→n<w.heap.size∧(hg h i).isSome
 siz: ∀ i n,σ i=some n→ ∃ cs t fr,w.heap[n]? =some (.cells cs t fr)∧cs.size=σ.z n
 sep: ∀ i n,ro≤i→σ i=some n→ ¬ σ.im n
 imm: ∀ n,σ.im n→n<w.heap.size∧w.heap[n]? =σ.w.heap[n]?

theorem bT.get {ro:Nat} {σ:Sg} {h:Hp} {w:World} (hh:bT ro σ h w) {id n:Nat} {b:bQ} (hb:hg h id=some b) (hn:σ id=some n):
 ∃ xs:List Value,fA w n xs b.elem∧fD σ b.c xs:=by
 rcases hh.blk id b hb with ⟨m,xs,h1,h2,h3⟩ | ⟨_,h1⟩
 · rw [hn] at h1; cases h1; exact ⟨xs,h2,h3⟩
 · rw [hn] at h1; cases h1

section
variable {P:Program} {w:World} {σ:Sg} {ro:Nat}

theorem afM {n o j:Nat} {xs:List Value} {t:TypeId} (hg:fA w n xs t):
 w.cell? ((⟨n,o,none⟩:Addr).add j)=xs[o+j]? :=by
 obtain ⟨fr,hg,_⟩:=hg
 rw [addr_add]
 simp [World.cell?,hg]

theorem Bw {n o s:Nat} {xs:List Value} {t:TypeId} (hg:fA w n xs t) (hs:o+s≤xs.length):
 (loadCells ⟨n,o,none⟩ s).run P w= .ok ((xs.drop o).take s).toArray w:=by
 have hl:((xs.drop o).take s).length=s:=by simp; omega
 have:=run_loadCells_list (P:=P) w ⟨n,o,none⟩ ((xs.drop o).take s) (by
  intro j v hj
  rw [afM hg]
  have hjs:j<s:=by
   have:=(List.getElem?_eq_some_iff.1 hj).1
   omega
  rw [List.getElem?_take_of_lt hjs,List.getElem?_drop] at hj
  exact hj)
 rw [hl] at this
 exact this

theorem fZ {n o s:Nat} {xs:List Value} {t ty:TypeId} (hg:fA w n xs t) (hs:o+s≤xs.length)
 (ha:mf P ty=some true) (hz:jG P ty=some s):
 (loadVar ty ⟨n,o,none⟩).run P w= .ok (.agg ((xs.drop o).take s).toArray) w:=by
 simp [loadVar,jB ha,run_sizeOf hz,Bw hg hs]

theorem jR {n o:Nat} {xs:List Value} {t ty:TypeId} {x:Value} (hg:fA w n xs t) (hx:xs[o]? =some x)
 (ha:mf P ty=some false):
 (loadVar ty ⟨n,o,none⟩).run P w= .ok x w:=by
 have hc:w.cell? ⟨n,o,none⟩=some x:=by obtain ⟨fr,hg,_⟩:=hg; simp [World.cell?,hg,hx]
 simp [loadVar,jB ha,hc]

theorem D6 {z c:Nat} {f:Nat→List L} {xs:List Value} {i r s:Nat} (h:fD σ (.big z c f) xs) (hi:i<c):
 aX σ (f i) ((xs.drop (i*z)).take z)∧((xs.drop (i*z)).take z).length=z∧
  (r+s≤z→(((xs.drop (i*z)).take z).drop r).take s=(xs.drop (i*z+r)).take s∧i*z+r+s≤xs.length):=by
 obtain ⟨hl,hf⟩:=h
 have hle:i*z+z≤z*c:=by
  have:(i+1)*z≤c*z:=Nat.mul_le_mul_right z (by omega)
  rw [Nat.add_mul] at this
  rw [Nat.mul_comm z c]; omega
 refine ⟨(hf i hi).1,by simp; omega,fun hrs=> ⟨?_,by omega⟩⟩
 rw [List.drop_take,List.take_take,List.drop_drop]
 congr 1
 omega

theorem zY {ts:List LT} {x:List (List D)} {xs:List Value} {i r s:Nat} (h:fD σ (.row ts x) xs) (hi:i<x.length):
 aX σ (iX ts (x.getD i [])) ((xs.drop (i*bP ts)).take (bP ts))∧((xs.drop (i*bP ts)).take (bP ts)).length=bP ts∧
  (r+s≤bP ts→(((xs.drop (i*bP ts)).take (bP ts)).drop r).take s=(xs.drop (i*bP ts+r)).take s∧i*bP ts+r+s≤xs.length):=by
 obtain ⟨hl,hf,_⟩:=h
 have hle:i*bP ts+bP ts≤xs.length:=by
  have:(i+1)*bP ts≤x.length*bP ts:=Nat.mul_le_mul_right _ (by omega)
  rw [Nat.add_mul] at this
  rw [Nat.mul_comm] at hl; omega
 have he:x[i]? =some (x.getD i []):=by
  rw [List.getD_eq_getElem?_getD,List.getElem?_eq_getElem hi]; rfl
 refine ⟨aX.iH.2 (hf _ _ he),by simp; omega,fun hrs=> ⟨?_,by omega⟩⟩
 rw [List.drop_take,List.take_take,List.drop_drop]
 congr 1
 omega

theorem Wx {u:LT} {x:List (List D)} {xs:List Value} (h:fD σ (.row [u] x) xs): ∀ (n i:Nat),i+n≤x.length→
 aX σ ((List.range n).map fun j=> wR u (H9 (x.getD (i+j) []))) ((xs.drop (i*u.sz)).take (n*u.sz))
 | 0,i,_=> by simp [aX]
 | n+1,i,hn=> by
   obtain ⟨h1,h2,_⟩:=zY (r:=0) (s:=0) h (show i<x.length by omega)
   have hsz:bP [u]=u.sz:=by simp [bP]
   rw [hsz] at h1 h2
   have ih:=Wx h n (i+1) (by omega)
   have e:(List.range (n+1)).map (fun j=> wR u (H9 (x.getD (i+j) [])))=wR u (H9 (x.getD i []))::(List.range n).map fun j=> wR u (H9 (x.getD (i+1+j) [])):=by
    rw [List.range_succ_eq_map,List.map_cons,List.map_map]
    congr 1
    refine List.map_congr_left fun j _=> ?_
    simp only [Function.comp,Nat.succ_eq_add_one]
    rw [show i+(j+1)=i+1+j by omega]
   have e2:(xs.drop (i*u.sz)).take ((n+1)*u.sz)=(xs.drop (i*u.sz)).take u.sz++(xs.drop ((i+1)*u.sz)).take (n*u.sz):=by
    rw [show (n+1)*u.sz=u.sz+n*u.sz by rw [Nat.add_mul]; omega,List.take_add,List.drop_drop,show i*u.sz+u.sz=(i+1)*u.sz by rw [Nat.add_mul]; omega]
   rw [e,e2]
   simp only [iX,aX] at h1
   obtain ⟨ys,zs,e3,g1,g2⟩:=h1
   subst g2
   rw [List.append_nil] at e3
   exact ⟨_,_,rfl,by rw [e3]; exact g1,ih⟩

theorem x9 {b o off s:Nat} {ys:List Value} {ty:TypeId} (hc:eH w b o ys) (hs:off+s≤ys.length) (ha:mf P ty=some true) (hz:jG P ty=some s):
 (loadVar ty ⟨b,o+off,none⟩).run P w= .ok (.agg ((ys.drop off).take s).toArray) w:=by
 have hl:((ys.drop off).take s).length=s:=by simp; omega
 have:=run_loadCells_list (P:=P) w ⟨b,o+off,none⟩ ((ys.drop off).take s) (by
  intro j v hj
  have hjs:j<s:=by
   have:=(List.getElem?_eq_some_iff.1 hj).1
   omega
  rw [List.getElem?_take_of_lt hjs,List.getElem?_drop] at hj
  have:=hc _ v hj
  rw [addr_add,show o+off+j=o+(off+j) by omega]
  exact this)
 rw [hl] at this
 simp [loadVar,jB ha,run_sizeOf hz,this]
theorem yc {b o off:Nat} {ys:List Value} {ty:TypeId} {x:Value} (hc:eH w b o ys) (hx:ys[off]? =some x) (ha:mf P ty=some false):
 (loadVar ty ⟨b,o+off,none⟩).run P w= .ok x w:=by
 have:=hc _ _ hx
 simp [loadVar,jB ha,this]
theorem bT.cells {h:Hp} (hh:bT ro σ h w) {b o:Nat} {ys:List Value} (hb:σ.im b) (hc:eH σ.w b o ys):eH w b o ys:=by
 intro j v hj
 rw [← hc j v hj]
 exact World.cell?_of_block (hh.imm b hb).2

theorem y9 {t:TypeId} {a v:V} {h:Hp} {x:Value} (he:Gives (rJ P t a (hg h)) v) (ha:aQ σ a x) (hh:bT ro σ h w):
 ∃ y,(Instr.loadAt t x).run P w= .ok y w∧aQ σ v y:=by
 unfold rJ at he
 split at he
 · rename_i id off
   obtain ⟨n,hn,rfl⟩:=MK ha
   split at he
   · rename_i b hb
     obtain ⟨xs,hg,hc⟩:=hh.get hb hn
     split at he
     · rename_i s hag hz
       split at he
       · rename_i z c f _ hbc
         split at he
         · rename_i hs
           obtain ⟨_,rfl⟩:=au he
           rw [hbc] at hc
           have hl:xs.length=s:=hc.1.trans hs
           refine ⟨.agg xs.toArray,?_,xs,rfl,hc⟩
           simp only [Instr.loadAt,Instr.sureAddr,Sem.run_bind,Sem.run_pure,Result.andThen_ok]
           rw [fZ hg (by omega) hag hz,List.drop_zero,List.take_of_length_le (by omega)]
         · cases he
       · rename_i hbc
         split at he
         · rename_i c' hs
           obtain ⟨_,rfl⟩:=au he
           obtain ⟨h1,h2⟩:=iJ hs hc
           refine ⟨_,?_,_,rfl,h1⟩
           simp only [Instr.loadAt,Instr.sureAddr,Sem.run_bind,Sem.run_pure,Result.andThen_ok]
           rw [fZ hg h2 hag hz]
         · cases he
     · rename_i s hag hz
       split at he
       · rename_i chk l hs
         obtain ⟨hck,rfl⟩:=au he
         obtain ⟨y,hy,hl⟩:=lC hs hck hc
         refine ⟨y,?_,hl.xU⟩
         simp only [Instr.loadAt,Instr.sureAddr,Sem.run_bind,Sem.run_pure,Result.andThen_ok]
         rw [jR hg hy hag]
       · cases he
     · cases he
   · cases he
 · rename_i id z i r
   obtain ⟨n,hn,rfl⟩:=J5 ha
   split at he
   · rename_i b hb
     obtain ⟨xs,hg,hc⟩:=hh.get hb hn
     split at he
     · rename_i z' c f hbc
       rw [hbc] at hc
       split at he
       · rename_i hzz
         have hzz':z=z':=of_decide_eq_true hzz
         subst hzz'
         split at he
         · rename_i s hag hz
           split at he
           · rename_i c' hs
             obtain ⟨hck,rfl⟩:=au he
             have hi:i<c:=of_decide_eq_true (hck _ (by simp))
             obtain ⟨h1,h2,h3⟩:=D6 (r:=r) (s:=s) hc hi
             obtain ⟨h4,h5⟩:=iJ (σ:=σ) (c:= .ps (f i)) hs h1
             obtain ⟨h6,h7⟩:=h3 (by omega)
             refine ⟨_,?_,_,rfl,h4⟩
             simp only [Instr.loadAt,Instr.sureAddr,Sem.run_bind,Sem.run_pure,Result.andThen_ok]
             rw [fZ hg h7 hag hz,h6]
           · cases he
         · rename_i s hag hz
           split at he
           · rename_i chk l hs
             obtain ⟨hck,rfl⟩:=au he
             obtain ⟨hck1,hck2⟩:=fT hck
             have hi:i<c:=of_decide_eq_true hck1
             obtain ⟨h1,h2,h3⟩:=D6 (r:=r) (s:=1) hc hi
             obtain ⟨y,hlt,hy,hl⟩:=Vr (σ:=σ) (c:= .ps (f i)) hs hck2 h1
             refine ⟨y,?_,hl.xU⟩
             simp only [Instr.loadAt,Instr.sureAddr,Sem.run_bind,Sem.run_pure,Result.andThen_ok]
             refine jR hg ?_ hag
             have:i*z+r<xs.length:=by
              have:=(h3 (by omega)).2; omega
             rw [List.getElem?_eq_getElem this,← hy]
             simp [List.getElem_take,List.getElem_drop]
           · cases he
         · cases he
       · cases he
     · rename_i l hbc
       rw [hbc] at hc
       split at he
       · rename_i s hag hz
         split at he
         · rename_i c' hs
           obtain ⟨hck,rfl⟩:=au he
           obtain ⟨h1,h2⟩:=iJ hs hc
           refine ⟨_,?_,_,rfl,h1⟩
           simp only [Instr.loadAt,Instr.sureAddr,Sem.run_bind,Sem.run_pure,Result.andThen_ok]
           rw [fZ hg h2 hag hz]
         · cases he
       · rename_i s hag hz
         split at he
         · rename_i chk l' hs
           obtain ⟨hck,rfl⟩:=au he
           obtain ⟨y,hy,hl⟩:=lC hs hck hc
           refine ⟨y,?_,hl.xU⟩
           simp only [Instr.loadAt,Instr.sureAddr,Sem.run_bind,Sem.run_pure,Result.andThen_ok]
           rw [jR hg hy hag]
         · cases he
       · cases he
     · rename_i ts x hbc
       rw [hbc] at hc
       split at he
       · rename_i s hzz hag hz
         have hzz:=of_decide_eq_true hzz
         subst hzz
         split at he
         · rename_i hle
           have hle:=Nat.le_of_ble_eq_true hle
           split at he
           · rename_i c' hs
             obtain ⟨hck,rfl⟩:=au he
             have hi:i<x.length:=of_decide_eq_true (hck _ (by simp))
             obtain ⟨h1,h2,h3⟩:=zY (r:=r) (s:=s) hc hi
             obtain ⟨h4,h5⟩:=iJ (σ:=σ) (c:= .ps (iX ts (x.getD i []))) hs h1
             obtain ⟨h6,h7⟩:=h3 hle
             refine ⟨_,?_,_,rfl,h4⟩
             simp only [Instr.loadAt,Instr.sureAddr,Sem.run_bind,Sem.run_pure,Result.andThen_ok]
             rw [fZ hg h7 hag hz,h6]
           · cases he
         · split at he
           · rename_i u hble
             split at he
             · rename_i hdiv
               have hdiv:=of_decide_eq_true hdiv
               obtain ⟨hck,rfl⟩:=au he
               have hi:i+s / bP [u]≤x.length:=of_decide_eq_true (hck _ (by simp))
               have h1:=Wx hc (s / bP [u]) i hi
               have hsz:u.sz=bP [u]:=by simp [bP]
               rw [hsz,hdiv] at h1
               have hle:i*bP [u]+0+s≤xs.length:=by
                have h3:=hc.1
                have:(i+s / bP [u])*bP [u]≤x.length*bP [u]:=Nat.mul_le_mul_right _ hi
                rw [Nat.add_mul,hdiv] at this
                rw [Nat.mul_comm] at h3; omega
               refine ⟨_,?_,_,rfl,h1⟩
               simp only [Instr.loadAt,Instr.sureAddr,Sem.run_bind,Sem.run_pure,Result.andThen_ok]
               rw [fZ hg hle hag hz,Nat.add_zero]
             · cases he
           · cases he
       · rename_i s hzz hag hz
         have hzz:=of_decide_eq_true hzz
         subst hzz
         split at he
         · rename_i chk l hs
           obtain ⟨hck,rfl⟩:=au he
           obtain ⟨hck1,hck2⟩:=fT hck
           have hi:i<x.length:=of_decide_eq_true hck1
           obtain ⟨h1,h2,h3⟩:=zY (r:=r) (s:=1) hc hi
           obtain ⟨y,hlt,hy,hl⟩:=Vr (σ:=σ) (c:= .ps (iX ts (x.getD i []))) hs hck2 h1
           refine ⟨y,?_,hl.xU⟩
           simp only [Instr.loadAt,Instr.sureAddr,Sem.run_bind,Sem.run_pure,Result.andThen_ok]
           refine jR hg ?_ hag
           have:i*bP ts+r<xs.length:=by
            have:=(h3 (by omega)).2; omega
           rw [List.getElem?_eq_getElem this,← hy]
           simp [List.getElem_take,List.getElem_drop]
         · cases he
       · cases he
     · cases he
   · cases he
 · rename_i ts d off
   obtain ⟨b,o,ys,rfl,h1,h2,h3⟩:=vrp ha
   have hcs:=hh.cells h1 h3
   have hp:fD σ (.ps (iX ts d)) ys:=aX.iH.2 h2
   split at he
   · rename_i s hag hz
     split at he
     · rename_i c' hs
       obtain ⟨_,rfl⟩:=au he
       obtain ⟨h4,h5⟩:=iJ hs hp
       refine ⟨_,?_,_,rfl,h4⟩
       simp only [Instr.loadAt,Instr.sureAddr,Sem.run_bind,Sem.run_pure,Result.andThen_ok]
       rw [x9 hcs h5 hag hz]
     · cases he
   · rename_i s hag hz
     split at he
     · rename_i chk l hs
       obtain ⟨hck,rfl⟩:=au he
       obtain ⟨y,hy,hl⟩:=lC hs hck hp
       refine ⟨y,?_,hl.xU⟩
       simp only [Instr.loadAt,Instr.sureAddr,Sem.run_bind,Sem.run_pure,Result.andThen_ok]
       rw [yc hcs hy hag]
     · cases he
   · cases he
 · cases he

theorem j5 {c c':C} {off s:Nat} {new:List L} {chk:List Bool} {xs ys:List Value} (he:yl c off s new=some (chk,c')) (ht:allT chk)
 (hx:fD σ c xs) (hy:aX σ new ys) (hs:ys.length=s):fD σ c' (xs.take off++ys++xs.drop (off+s))∧off+s≤xs.length:=by
 unfold yl at he
 split at he
 · rename_i l
   split at he
   · rename_i hn
     split at he
     · rename_i a r h1
       split at he
       · rename_i m z h2
         cases he
         obtain ⟨h3,h4,_⟩:=xq h1 h2 hn hx hy
         exact ⟨h3,h4⟩
       · cases he
     · cases he
   · cases he
 · rename_i c f x
   split at he
   · cases he
   · rename_i x' hnp hfl
     cases he
     have hlt:off<c:=of_decide_eq_true (ht _ (by simp))
     obtain ⟨hl,hf⟩:=hx
     have hl':xs.length=c:=by omega
     obtain ⟨y,rfl⟩:=List.length_eq_one_iff.1 hs
     refine ⟨⟨by simp; omega,?_⟩,by omega⟩
     intro i hi
     have key: ∀ (zs:List Value) (j:Nat),(zs.drop (j*1)).take 1=(zs[j]?).toList:=by
      intro zs j
      rw [Nat.mul_one]
      by_cases hj:j<zs.length
      · rw [List.drop_eq_getElem_cons hj,List.getElem?_eq_getElem hj]; rfl
      · rw [List.drop_of_length_le (by omega),List.getElem?_eq_none (by omega)]; rfl
     rw [key]
     refine ⟨?_,?_⟩
     case refine_2=>
      by_cases hio:i=off
      · subst hio; simp only [if_true]; simp [EM,hfl]
      · simp only [if_neg hio]; exact (hf i hi).2
     by_cases hio:i=off
     · subst hio
       simp only [if_true]
       have e:(xs.take i++ [y]++xs.drop (i+1))[i]? =some y:=by
        rw [List.append_assoc,List.getElem?_append_right (by simp; omega)]
        simp [Nat.min_eq_left (by omega:i≤xs.length)]
       rw [e]
       exact hy
     · simp only [if_neg hio]
       have e:(xs.take off++ [y]++xs.drop (off+1))[i]? =xs[i]? :=by
        rw [List.append_assoc]
        by_cases h:i<off
        · rw [List.getElem?_append_left (by simp; omega),List.getElem?_take_of_lt h]
        · rw [List.getElem?_append_right (by simp; omega)]
          simp only [List.length_take,Nat.min_eq_left (by omega:off≤xs.length)]
          obtain ⟨m,hm⟩: ∃ m,i - off=m+1:=⟨i - off - 1,by omega⟩
          rw [hm]
          simp only [List.singleton_append,List.getElem?_cons_succ,List.getElem?_drop]
          congr 1
          omega
       rw [e,← key]
       exact (hf i hi).1
   · cases he
 · cases he

theorem Oe (xs ys:List Value) (a z r s:Nat) (h:r+s≤z) (hl:a+z≤xs.length) (hy:ys.length=s):
 ((xs.take (a+r)++ys++xs.drop (a+r+s)).drop a).take z=((xs.drop a).take z).take r++ys++((xs.drop a).take z).drop (r+s):=by
 have h1:xs.take (a+r)=xs.take a++(xs.drop a).take r:=by rw [List.take_add]
 have h2:xs.drop (a+r+s)=(xs.drop a).drop (r+s):=by rw [List.drop_drop,Nat.add_assoc]
 have hX:z≤(xs.drop a).length:=by simp; omega
 rw [h1,h2]
 generalize hXe:xs.drop a=X at*
 have e3:(xs.take a++X.take r++ys++X.drop (r+s)).drop a=X.take r++ys++X.drop (r+s):=by
  rw [List.append_assoc,List.append_assoc,List.drop_append]
  have:(xs.take a).length=a:=by simp; omega
  rw [List.drop_of_length_le (by omega),this]
  simp
 rw [e3,List.take_take,Nat.min_eq_left (by omega),List.drop_take,List.take_append]
 have e4:(X.take r++ys).length=r+s:=by simp; omega
 rw [List.take_of_length_le (by omega),e4]

theorem OP (xs ys:List Value) (o a z s:Nat) (h:a+z≤o∨o+s≤a) (hy:ys.length=s) (ho:o+s≤xs.length):
 ((xs.take o++ys++xs.drop (o+s)).drop a).take z=(xs.drop a).take z:=by
 apply List.ext_getElem?
 intro k
 rw [List.getElem?_take,List.getElem?_take]
 split
 · rename_i hk
   rw [List.getElem?_drop,List.getElem?_drop,List.append_assoc]
   rcases h with h | h
   · rw [List.getElem?_append_left (by simp; omega),List.getElem?_take_of_lt (by omega)]
   · rw [List.getElem?_append_right (by simp; omega),List.getElem?_append_right (by simp; omega),List.getElem?_drop]
     congr 1
     simp
     omega
 · rfl

theorem PW {c c':C} {off s:Nat} {new:List L} {chk:List Bool} (he:yl c off s new=some (chk,c')):Cr new=s:=by
 unfold yl at he
 split at he
 · split at he
   · assumption
   · cases he
 · split at he
   · cases he
   · rename_i x0 _ _ hnp _
     have:x0.sz=1:=by
      cases x0 with
      | pk k b c n=> exact absurd rfl (hnp k b c n)
      | _=> rfl
     simp [Cr,this]
   · cases he
 · cases he

theorem PV {x:Value} (h:oneCell x=true):x.oneCell'=true:=by cases x<;> simp [oneCell,Value.oneCell'] at h ⊢

theorem kV {n o s:Nat} {xs ys:List Value} {t ty:TypeId} {x:Value} (hg:fA w n xs t) (hz:jG P ty=some s)
 (hx:x.cells.toList=ys) (hl:ys.length=s) (hs:o+s≤xs.length) (h1: ∀ y∈ys,oneCell y=true):
 (storeVar ty ⟨n,o,none⟩ x).run P w= .ok () (w.setRow n (xs.take o++ys++xs.drop (o+s)).toArray):=by
 have hsz:x.cells.size=s:=by rw [← hl,← hx]; simp
 obtain ⟨fr,hg,hfr⟩:=hg
 have:=jC P n o t fr ys 0 xs.toArray w hg (by simpa using hfr) (by simp; omega) (fun v hv=> PV (h1 v hv))
 simp only [storeVar,Sem.run_bind,run_sizeOf hz,Result.andThen_ok,hsz,ne_eq,not_true_eq_false,if_false,hx]
 rw [this]
 simp [hl]

theorem bT.set {h:Hp} (hh:bT ro σ h w) {id n:Nat} {b:bQ} {xs ys:List Value} {c:C} (hro:ro≤id) (hb:hg h id=some b) (hn:σ id=some n)
 (hg':fA w n xs b.elem) (hc:fD σ c ys) (hnd:b.c≠ .dead) (hlen:ys.length=xs.length):
 bT ro σ (h.set id (some ⟨b.elem,c⟩)) (w.setRow n ys.toArray):=by
 have hlt:id<h.length:=by
  unfold hg at hb
  rw [List.getD_eq_getElem?_getD] at hb
  cases hh:h[id]? with
  | none=> simp [hh] at hb
  | some y=> exact (List.getElem?_eq_some_iff.1 hh).1
 have hget: ∀ j,hg (h.set id (some ⟨b.elem,c⟩)) j=if j=id then some ⟨b.elem,c⟩ else hg h j:=by
  intro j
  unfold hg
  rw [List.getD_eq_getElem?_getD,List.getElem?_set]
  by_cases hj:j=id
  · subst hj; simp [hlt]
  · rw [if_neg (fun e=> hj e.symm),if_neg hj,List.getD_eq_getElem?_getD]
 have hndi: ¬ dR h id:=by
  rintro ⟨e,he⟩
  rw [hb] at he
  cases he
  exact hnd rfl
 have hdead: ∀ j,j≠id→dR h j→dR (h.set id (some ⟨b.elem,c⟩)) j:=by
  rintro j hj ⟨e,he⟩
  exact ⟨e,by rw [hget,if_neg hj]; exact he⟩
 refine ⟨?_,?_,?_,?_,hh.sep,?_⟩
 · intro j b' hj
   rw [hget] at hj
   by_cases hji:j=id
   · subst hji
     rw [if_pos rfl] at hj
     cases hj
     exact .inl ⟨n,ys,hn,hg'.set hlen,hc⟩
   · rw [if_neg hji] at hj
     rcases hh.blk j b' hj with ⟨m,zs,hm,hgm,hcm⟩ | h2
     · by_cases hmn:m=n
       · subst hmn
         rcases hh.inj id j m hro hn hm with e | e | ⟨e,he⟩
         · exact absurd e.symm hji
         · exact absurd e hndi
         · rw [hj] at he
           cases he
           have hel:b.elem=e:=hg'.elem hgm
           exact .inl ⟨m,ys,hm,by rw [← hel]; exact hg'.set hlen,trivial⟩
       · exact .inl ⟨m,zs,hm,hgm.Nj (setRow_other w n m _ hmn),hcm⟩
     · exact .inr h2
 · intro i j m hri hi hj
   by_cases h1:i=id
   · subst h1
     rcases hh.inj i j m hri hi hj with e | e | e
     · exact .inl e
     · exact absurd e hndi
     · by_cases h2:j=i
       · exact .inl h2.symm
       · exact .inr (.inr (hdead j h2 e))
   · by_cases h2:j=id
     · subst h2
       rcases hh.inj i j m hri hi hj with e | e | e
       · exact .inl e
       · exact .inr (.inl (hdead i h1 e))
       · exact absurd e hndi
     · rcases hh.inj i j m hri hi hj with e | e | e
       · exact .inl e
       · exact .inr (.inl (hdead i h1 e))
       · exact .inr (.inr (hdead j h2 e))
 · intro i m him
   obtain ⟨h1,h2⟩:=hh.live i m him
   refine ⟨by simpa using h1,?_⟩
   rw [hget]
   split
   · rfl
   · exact h2
 · intro i m him
   by_cases hmn:m=n
   · subst hmn
     obtain ⟨cs,t,fr,g1,g2⟩:=hh.siz i m him
     obtain ⟨fr0,hg0,_⟩:=hg'
     rw [hg0] at g1
     simp only [Option.some.injEq,Obj.cells.injEq] at g1
     refine ⟨ys.toArray,b.elem,fr0,setRow_heap w m _ _ _ _ hg0,?_⟩
     rw [← g2,← g1.1]
     simpa using hlen
   · obtain ⟨cs,t,fr,g1,g2⟩:=hh.siz i m him
     exact ⟨cs,t,fr,by rw [setRow_other w n m _ hmn]; exact g1,g2⟩
 · intro m hm
   obtain ⟨h1,h2⟩:=hh.imm m hm
   have hne:m≠n:=fun e=> hh.sep id n hro hn (e ▸ hm)
   exact ⟨by simpa using h1,by rw [setRow_other w n m _ hne]; exact h2⟩

theorem IC: ∀ {xs ys:List Value},cmpL xs ys=some true→xs=ys
 | [],[],_=> rfl
 | [],_::_,h=> by cases h
 | _::_,[],h=> by cases h
 | x::xs,y::ys,h=> by
   simp only [cmpL] at h
   split at h
   · rename_i a b ha hb
     simp only [Option.some.injEq,Bool.and_eq_true] at h
     obtain ⟨rfl,rfl⟩:=h
     have hx:x=y:=by
      unfold Nh at ha
      split at ha
      · split at ha
        · rename_i hk
          simp only [Option.some.injEq,beq_iff_eq] at ha
          rw [hk,ha]
        · cases ha
      · cases ha
     rw [hx,IC hb]
   · cases h

theorem GR {σ:Sg} {k:IntKind} (hk:k.signed=false): ∀ {c:Nat} {l:List L} {ok:Bool} {n:Nat} {r:List L} {ys:List Value},
 jT k k.bits c l=some (ok,n,r)→aX σ l ys→ok=true∧n<2^(k.bits*c)
 | 0,l,ok,n,r,ys,h,hp=> by cases h; simp
 | c+1,[],_,_,_,_,h,_=> by cases h
 | c+1,x::l,ok,n,r,ys,h,hp=> by
   cases x with
   | int k' a=>
     simp only [jT] at h
     split at h
     · rename_i ok' n1 r' hkk ht
       cases h
       have hkk':k=k':=of_decide_eq_true hkk
       subst hkk'
       obtain ⟨y1,ys',e,⟨e1,ha⟩,hp'⟩:=hp
       obtain ⟨h1,h2⟩:=GR hk ht hp'
       have h3:=(bK hk).1 ha
       refine ⟨by rw [h1,decide_eq_true h3.2]; rfl,?_⟩
       have e3:k.bits*(c+1)=k.bits+k.bits*c:=by rw [Nat.mul_add]; omega
       rw [e3,Nat.pow_add]
       have h4:a.toNat<2^k.bits:=by omega
       have h5:n1+1≤2^(k.bits*c):=h2
       calc a.toNat+2^k.bits*n1<2^k.bits+2^k.bits*n1:=by omega
        _=2^k.bits*(n1+1):=by rw [Nat.mul_add]; omega
        _≤2^k.bits*2^(k.bits*c):=Nat.mul_le_mul_left _ h5
     · cases h
   | _=> simp [jT] at h

theorem xH {σ:Sg} {t:LT} {l r:List L} {d:D} {xs:List Value} (h:Kr t l=some (d,r)) (hx:aX σ l xs):
 ∃ x ys zs,bD t d=some x∧xs=ys++zs∧dV σ x ys∧aX σ r zs:=by
 unfold Kr at h
 split at h
 · rename_i k b c k' b' c' n r'
   split at h
   · rename_i hk
     cases h
     obtain ⟨rfl,rfl,rfl⟩:=of_decide_eq_true hk
     obtain ⟨ys,zs,e,h1,h2⟩:=hx
     exact ⟨_,ys,zs,rfl,e,h1,h2⟩
   · cases h
 · rename_i k b c k' a r'
   split at h
   · rename_i ok n r2 hk ht
     cases h
     obtain ⟨rfl,hu⟩:=of_decide_eq_true hk
     obtain ⟨zs,us,e,hr,hcmp⟩:=l6 hu ht hx
     obtain ⟨h1,h2⟩:=GR hu ht hx
     refine ⟨_,zs,us,rfl,e,?_,hr⟩
     have:=hcmp _ h2
     rw [h1] at this
     simp only [Bool.true_and,decide_true] at this
     exact ⟨(IC this).symm,h2,hu,Nat.le_refl _⟩
   · cases h
 · rename_i k k' a r'
   split at h
   · rename_i hk
     cases h
     have:=of_decide_eq_true hk
     subst this
     obtain ⟨ys,zs,e,h1,h2⟩:=hx
     exact ⟨_,ys,zs,rfl,e,h1,h2⟩
   · cases h
 · cases h
   obtain ⟨ys,zs,e,h1,h2⟩:=hx
   exact ⟨_,ys,zs,rfl,e,h1,h2⟩
 · cases h
   obtain ⟨ys,zs,e,h1,h2⟩:=hx
   exact ⟨_,ys,zs,rfl,e,h1,h2⟩
 · split at h
   · rename_i hts
     cases h
     have:=lW hts
     subst this
     obtain ⟨ys,zs,e,h1,h2⟩:=hx
     exact ⟨_,ys,zs,rfl,e,h1,h2⟩
   · cases h
 · cases h
   obtain ⟨ys,zs,e,h1,h2⟩:=hx
   refine ⟨_,ys,zs,rfl,e,?_,h2⟩
   have h1:ys= [.slice none 0 0]:=h1
   subst h1
   simp only [dV,eF,D.wR]
   exact ⟨none,0,rfl,⟨Nat.le_refl _,Nat.zero_le _⟩, .inl trivial⟩
 · cases h

theorem Ns {t:LT} {d:D} {x:L} (h:bD t d=some x):x=wR t d:=by
 unfold bD at h
 split at h<;> cases h<;> rfl
theorem abl {t:LT} {l r:List L} {d:D} {xs:List Value} (h:Kr t l=some (d,r)) (hx:aX σ l xs):
 ∃ ys zs,xs=ys++zs∧eF σ.w σ.im t d ys∧aX σ r zs:=by
 obtain ⟨x,ys,zs,h1,h2,h3,h4⟩:=xH h hx
 rw [Ns h1] at h3
 exact ⟨ys,zs,h2,dV.iH.1 h3,h4⟩
theorem ql: ∀ {ts:List LT} {q:List L} {d:List D} {ys:List Value},wL ts q=some d→aX σ q ys→aT σ.w σ.im ts d ys
 | [],[],d,ys,h,hq=> by cases h; simp only [aT]; exact hq
 | [],_::_,d,ys,h,hq=> by simp [wL] at h
 | t::ts,q,d,ys,h,hq=> by
   simp only [wL] at h
   split at h
   · rename_i d1 r hd
     split at h
     · rename_i ds hds
       cases h
       obtain ⟨y1,y2,e,h1,h2⟩:=abl hd hq
       simp only [aT]
       exact ⟨y1,y2,e,h1,ql hds h2⟩
     · cases h
   · cases h
theorem oU {xs ys:List Value} {o s:Nat} (hl:ys.length=s) (h:o+s≤xs.length):(xs.take o++ys++xs.drop (o+s)).length=xs.length:=by
 simp only [List.length_append,List.length_take,List.length_drop,hl]
 omega
theorem wm {c c':C} {off s:Nat} {new:List L} {chk:List Bool} (he:yl c off s new=some (chk,c')):c≠ .dead:=by
 rintro rfl
 simp [yl] at he

theorem HV {t:TypeId} {a v:V} {h:Hp} {x y:Value} {chk:List Bool} {id:Nat} {nb:bQ} (he:kM P ro t a v (hg h)=some (chk,id,nb)) (ht:allT chk)
 (ha:aQ σ a x) (hv:aQ σ v y) (hh:bT ro σ h w):
 ∃ n cs,(Instr.storeAt t x y).run P w= .ok () (w.setRow n cs)∧σ id=some n∧ro≤id∧bT ro σ (h.set id (some nb)) (w.setRow n cs):=by
 unfold kM at he
 split at he
 · rename_i s x' hz
   split at he
   · rename_i id off
     obtain ⟨n,hn,rfl⟩:=MK ha
     split at he
     · rename_i b hb hro'
       have hro:ro≤id:=of_decide_eq_true hro'
       obtain ⟨xs,hgg,hc⟩:=hh.get hb hn
       split at he
       · rename_i z c f
         split at he
         · rename_i hs
           cases he
           obtain ⟨hs1,hs2,hs3⟩:=of_decide_eq_true hs
           obtain ⟨ys,rfl,hys⟩:=hv
           have hl:ys.length=s:=hys.1.trans hs1
           have hxl:xs.length=s:=(hc.len hs3).trans hs2
           have hst:=kV (P:=P) (o:=0) (ty:=t) (x:= .agg ys.toArray) hgg hz (ys:=ys) rfl hl (by omega) (hys.mG (by simp))
           have e:xs.take 0++ys++xs.drop (0+s)=ys:=by
            rw [List.drop_of_length_le (by omega)]; simp
           rw [e] at hst
           exact ⟨n,ys.toArray,by simp [Instr.storeAt,Instr.sureAddr,hst],hn,hro,hh.set hro hb hn hgg hys (by intro e; rw [e] at hs3; cases hs3) (by omega)⟩
         · cases he
       · rename_i x' off' hne
         split at he
         · rename_i new hnew
           split at he
           · rename_i chk' c' hset
             cases he
             have hy:=uM hnew hv
             have hlen:y.cells.toList.length=s:=hy.len.trans (PW hset)
             obtain ⟨hc',hle⟩:=j5 hset ht hc hy hlen
             have hst:=kV (P:=P) (ty:=t) (x:=y) hgg hz rfl hlen hle hy.mG
             exact ⟨n,(xs.take off++y.cells.toList++xs.drop (off+s)).toArray,by simp only [Instr.storeAt,Instr.sureAddr,Sem.run_bind,Sem.run_pure,Result.andThen_ok,hst],hn,hro,hh.set hro hb hn hgg hc' (wm hset) (oU hlen hle)⟩
           · cases he
         · cases he
     · cases he
   · rename_i id z i r
     obtain ⟨n,hn,rfl⟩:=J5 ha
     split at he
     · rename_i b hb hro'
       have hro:ro≤id:=of_decide_eq_true hro'
       obtain ⟨xs,hgg,hc⟩:=hh.get hb hn
       split at he
       case h_2=> cases he
       rename_i new hnew
       have hy:=uM hnew hv
       split at he
       · rename_i z' c f hbc
         rw [hbc] at hc
         split at he
         · rename_i hzz
           have hzz':z=z':=of_decide_eq_true hzz
           subst hzz'
           split at he
           · rename_i chk' q hset
             split at he
             case h_2=> cases he
             rename_i hfl
             cases he
             obtain ⟨ht1,ht2⟩:=fT ht
             have hi:i<c:=of_decide_eq_true ht1
             have hlen:y.cells.toList.length=s:=by
              have h1:=hy.len
              have:Cr new=s:=by
               simp only [yl] at hset
               split at hset
               · assumption
               · cases hset
              omega
             obtain ⟨h1,h2,h3⟩:=D6 (r:=r) (s:=s) hc hi
             obtain ⟨hc',hle⟩:=j5 hset ht2 (c:= .ps (f i)) h1 hy hlen
             have hle0:=hle
             rw [h2] at hle0
             obtain ⟨_,h5⟩:=h3 hle0
             have hst:=kV (P:=P) (o:=i*z+r) (ty:=t) (x:=y) hgg hz rfl hlen h5 hy.mG
             refine ⟨n,(xs.take (i*z+r)++y.cells.toList++xs.drop (i*z+r+s)).toArray,by simp only [Instr.storeAt,Instr.sureAddr,Sem.run_bind,Sem.run_pure,Result.andThen_ok,hst],hn,hro,hh.set hro hb hn hgg ?_ (by rw [hbc]; simp) (oU hlen h5)⟩
             obtain ⟨hxl,hf⟩:=hc
             refine ⟨by
              rw [List.length_append,List.length_append,List.length_take,List.length_drop,hlen,Nat.min_eq_left (by omega)]
              omega,?_⟩
             intro j hj
             have hjz:j*z+z≤z*c:=by
              have:(j+1)*z≤c*z:=Nat.mul_le_mul_right z (by omega)
              rw [Nat.add_mul] at this
              rw [Nat.mul_comm z c]; omega
             have hiz:i*z+z≤z*c:=by
              have:(i+1)*z≤c*z:=Nat.mul_le_mul_right z (by omega)
              rw [Nat.add_mul] at this
              rw [Nat.mul_comm z c]; omega
             have hrz:r+s≤z:=by omega
             refine ⟨?_,?_⟩
             case refine_2=>
              by_cases hji:j=i
              · subst hji; simp only [if_true]; exact hfl
              · simp only [if_neg hji]; exact (hf j hj).2
             by_cases hji:j=i
             · subst hji
               simp only [if_true]
               have e:=Oe xs y.cells.toList (j*z) z r s hrz (by omega) hlen
               rw [e]
               exact hc'
             · simp only [if_neg hji]
               have hdis:j*z+z≤i*z∨i*z+z≤j*z:=by
                rcases Nat.lt_or_gt_of_ne hji with h | h
                · left
                  have:(j+1)*z≤i*z:=Nat.mul_le_mul_right z (by omega)
                  rw [Nat.add_mul] at this; omega
                · right
                  have:(i+1)*z≤j*z:=Nat.mul_le_mul_right z (by omega)
                  rw [Nat.add_mul] at this; omega
               have e:=OP xs y.cells.toList (i*z+r) (j*z) z s (by omega) hlen (by omega)
               rw [e]
               exact (hf j hj).1
           · cases he
         · cases he
       · rename_i l hbc
         rw [hbc] at hc
         split at he
         · rename_i chk' c' hset
           cases he
           have hlen:y.cells.toList.length=s:=by
            have h1:=hy.len
            have:Cr new=s:=by
             simp only [yl] at hset
             split at hset
             · assumption
             · cases hset
            omega
           obtain ⟨hc',hle⟩:=j5 hset ht hc hy hlen
           have hst:=kV (P:=P) (ty:=t) (x:=y) hgg hz rfl hlen hle hy.mG
           exact ⟨n,_,by simp only [Instr.storeAt,Instr.sureAddr,Sem.run_bind,Sem.run_pure,Result.andThen_ok,hst],hn,hro,hh.set hro hb hn hgg hc' (by rw [hbc]; simp) (oU hlen hle)⟩
         · cases he
       · rename_i ts x hbc
         rw [hbc] at hc
         split at he
         · rename_i chk' q hzz hset
           have hzz:=of_decide_eq_true hzz
           subst hzz
           split at he
           · rename_i d hd
             cases he
             obtain ⟨ht1,ht2⟩:=fT ht
             have hi:i<x.length:=of_decide_eq_true ht1
             have hlen:y.cells.toList.length=s:=by
              have h1:=hy.len
              have:Cr new=s:=PW hset
              omega
             obtain ⟨h1,h2,h3⟩:=zY (r:=r) (s:=s) hc hi
             obtain ⟨hc',hle⟩:=j5 hset ht2 (c:= .ps (iX ts (x.getD i []))) h1 hy hlen
             rw [h2] at hle
             obtain ⟨_,h5⟩:=h3 hle
             have hst:=kV (P:=P) (o:=i*bP ts+r) (ty:=t) (x:=y) hgg hz rfl hlen h5 hy.mG
             refine ⟨n,(xs.take (i*bP ts+r)++y.cells.toList++xs.drop (i*bP ts+r+s)).toArray,by simp only [Instr.storeAt,Instr.sureAddr,Sem.run_bind,Sem.run_pure,Result.andThen_ok,hst],hn,hro,hh.set hro hb hn hgg ?_ (by rw [hbc]; simp) (oU hlen h5)⟩
             obtain ⟨hxl,hf,hsc⟩:=hc
             refine ⟨by rw [oU hlen h5,List.length_set]; exact hxl,?_,?_⟩
             · intro j e hj
               rw [List.getElem?_set] at hj
               have hzx: ∀ m,m<x.length→m*bP ts+bP ts≤xs.length:=by
                intro m hm
                have:(m+1)*bP ts≤x.length*bP ts:=Nat.mul_le_mul_right _ (by omega)
                rw [Nat.add_mul] at this
                rw [Nat.mul_comm] at hxl; omega
               by_cases hji:i=j
               · subst hji
                 rw [if_pos rfl,if_pos hi] at hj
                 cases hj
                 rw [Oe xs y.cells.toList (i*bP ts) (bP ts) r s hle (hzx i hi) hlen]
                 exact ql hd hc'
               · rw [if_neg hji] at hj
                 have hjl:j<x.length:=(List.getElem?_eq_some_iff.1 hj).1
                 have hdis:j*bP ts+bP ts≤i*bP ts∨i*bP ts+bP ts≤j*bP ts:=by
                  rcases Nat.lt_or_gt_of_ne hji with h | h
                  · right
                    have:(i+1)*bP ts≤j*bP ts:=Nat.mul_le_mul_right _ (by omega)
                    rw [Nat.add_mul] at this; omega
                  · left
                    have:(j+1)*bP ts≤i*bP ts:=Nat.mul_le_mul_right _ (by omega)
                    rw [Nat.add_mul] at this; omega
                 rw [OP xs y.cells.toList (i*bP ts+r) (j*bP ts) (bP ts) s (by omega) hlen (by omega)]
                 exact hf j e hj
             · intro v hv
               rcases List.mem_append.1 hv with hv | hv
               · rcases List.mem_append.1 hv with hv | hv
                 · exact hsc v (List.mem_of_mem_take hv)
                 · exact hy.mG v hv
               · exact hsc v (List.mem_of_mem_drop hv)
           · cases he
         · cases he
       · cases he
     · cases he
   · cases he
 · cases he
end
end Vx

/-
  An executor of Go code on values of its own: new memory; calls; one operation of a region.
-/
namespace Vx
open Go Go.RowKit

def upd (σ:Sg) (id n sz:Nat):Sg:=⟨fun i=> if i=id then some n else σ i,fun b=> if b=n then sz else σ.z b,σ.w,σ.im⟩

theorem dZ (σ:Sg) (id n sz:Nat):upd σ id n sz id=some n:=if_pos rfl
theorem upd_ne {σ:Sg} {id n sz i:Nat} (h:i≠id):upd σ id n sz i=σ i:=if_neg h
theorem wJ {σ:Sg} {id n sz:Nat} (h:σ id=none) (hz: ∀ i,σ i=some n→σ.z n=sz):Sub σ (upd σ id n sz):=by
 refine ⟨fun i b hi=> ⟨?_,?_⟩,rfl,rfl⟩
 · by_cases e:i=id
   · subst e; rw [h] at hi; cases hi
   · rw [upd_ne e]; exact hi
 · show (if b=n then sz else σ.z b)=σ.z b
   by_cases e:b=n
   · subst e; rw [if_pos rfl,hz i hi]
   · rw [if_neg e]

theorem fO {h:Hp} {id:Nat} {b:bQ} (hlt:id<h.length) (j:Nat):hg (h.set id (some b)) j=if j=id then some b else hg h j:=by
 unfold hg
 rw [List.getD_eq_getElem?_getD,List.getElem?_set]
 by_cases hj:j=id
 · subst hj; simp [hlt]
 · rw [if_neg (fun e=> hj e.symm),if_neg hj,List.getD_eq_getElem?_getD]

theorem zf {h:Hp} {id:Nat} {b:bQ} (hb:hg h id=some b):id<h.length:=by
 unfold hg at hb
 rw [List.getD_eq_getElem?_getD] at hb
 cases hh:h[id]? with
 | none=> simp [hh] at hb
 | some y=> exact (List.getElem?_eq_some_iff.1 hh).1

section
variable {P:Program} {w:World} {σ:Sg} {ro:Nat}

theorem bT.fresh {h:Hp} (hh:bT ro σ h w) {id:Nat} (hn:hg h id=none):σ id=none:=by
 cases hs:σ id with
 | none=> rfl
 | some n=> have:=(hh.live id n hs).2; rw [hn] at this; cases this

theorem DU (w:World) (o:Obj) (n:Nat) (h:n<w.heap.size):(w.alloc o).heap[n]? =w.heap[n]? :=by
 show (w.heap.push o)[n]? =_
 rw [Array.getElem?_push,if_neg (by omega)]

theorem YA (w:World) (o:Obj):(w.alloc o).heap[w.heap.size]? =some o:=by
 show (w.heap.push o)[w.heap.size]? =_
 simp

structure Q5 (w w':World) (xs:List Value) (t:TypeId):Prop where
 os:w'.os=w.os
 tape:w'.tape=w.tape
 output:w'.output=w.output
 size:w'.heap.size=w.heap.size+1
 old: ∀ n,n<w.heap.size→w'.heap[n]? =w.heap[n]?
 new:fA w' w.heap.size xs t
theorem Q5.alloc (w:World) (xs:List Value) (t:TypeId):Q5 w (w.alloc (.cells xs.toArray t)) xs t:=
 ⟨rfl,rfl,rfl,by simp,fun n hn=> DU w _ n hn,(0,0),YA w _, .inl rfl⟩

theorem bT.Kb {h:Hp} (hh:bT ro σ h w) {w':World} {id:Nat} {b:bQ} {xs:List Value} (hw:Q5 w w' xs b.elem) (hlt:id<h.length) (hn:hg h id=none) (hc:fD σ b.c xs):
 bT ro (upd σ id w.heap.size xs.length) (h.set id (some b)) w':=by
 have hf:=hh.fresh hn
 have hnew: ∀ i,σ i≠some w.heap.size:=fun i hi=> by have:=(hh.live i _ hi).1; omega
 have hsub:Sub σ (upd σ id w.heap.size xs.length):=wJ hf (fun i hi=> absurd hi (hnew i))
 have hdead: ∀ j,dR h j→dR (h.set id (some b)) j:=by
  rintro j ⟨e,he⟩
  refine ⟨e,?_⟩
  rw [fO hlt,if_neg]
  · exact he
  · rintro rfl; rw [hn] at he; cases he
 refine ⟨?_,?_,?_,?_,?_,?_⟩
 · intro j b' hj
   rw [fO hlt] at hj
   by_cases hji:j=id
   · subst hji
     rw [if_pos rfl] at hj
     cases hj
     exact .inl ⟨w.heap.size,xs,dZ _ _ _ _,hw.new,hc.mono hsub⟩
   · rw [if_neg hji] at hj
     rcases hh.blk j b' hj with ⟨m,zs,hm,hgm,hcm⟩ | ⟨h1,h2⟩
     · exact .inl ⟨m,zs,hsub.get hm,hgm.Nj (hw.old _ (hh.live j m hm).1),hcm.mono hsub⟩
     · exact .inr ⟨h1,by rw [upd_ne hji]; exact h2⟩
 · intro i j n hro hi hj
   by_cases h1:i=id<;> by_cases h2:j=id
   · exact .inl (h1.trans h2.symm)
   · subst h1
     rw [dZ] at hi; rw [upd_ne h2] at hj
     cases hi
     exact absurd hj (hnew j)
   · subst h2
     rw [upd_ne h1] at hi; rw [dZ] at hj
     cases hj
     exact absurd hi (hnew i)
   · rw [upd_ne h1] at hi; rw [upd_ne h2] at hj
     rcases hh.inj i j n hro hi hj with e | e | e
     · exact .inl e
     · exact .inr (.inl (hdead i e))
     · exact .inr (.inr (hdead j e))
 · intro i n hi
   rw [fO hlt]
   by_cases h1:i=id
   · subst h1
     rw [dZ] at hi
     cases hi
     rw [if_pos rfl]
     exact ⟨by rw [hw.size]; omega,rfl⟩
   · rw [upd_ne h1] at hi
     rw [if_neg h1]
     obtain ⟨h3,h4⟩:=hh.live i n hi
     exact ⟨by rw [hw.size]; omega,h4⟩
 · intro i n hi
   by_cases h1:i=id
   · subst h1
     rw [dZ] at hi
     cases hi
     obtain ⟨fr0,hg0,_⟩:=hw.new
     refine ⟨_,_,_,hg0,?_⟩
     show xs.toArray.size=if w.heap.size=w.heap.size then xs.length else σ.z w.heap.size
     rw [if_pos rfl]; simp
   · rw [upd_ne h1] at hi
     obtain ⟨cs,t,fr,g1,g2⟩:=hh.siz i n hi
     exact ⟨cs,t,fr,by rw [hw.old _ (hh.live i n hi).1]; exact g1,by rw [(hsub.1 i n hi).2]; exact g2⟩
 · intro i n hro hi
   by_cases h1:i=id
   · subst h1
     rw [dZ] at hi
     cases hi
     intro him
     have:=(hh.imm _ him).1
     omega
   · rw [upd_ne h1] at hi
     exact hh.sep i n hro hi
 · intro n hn
   obtain ⟨h1,h2⟩:=hh.imm n hn
   exact ⟨by rw [hw.size]; omega,by rw [hw.old _ h1]; exact h2⟩

theorem bT.alloc {h:Hp} (hh:bT ro σ h w) {id:Nat} {b:bQ} {xs:List Value} (hlt:id<h.length) (hn:hg h id=none) (hc:fD σ b.c xs):
 bT ro (upd σ id w.heap.size xs.length) (h.set id (some b)) (w.alloc (.cells xs.toArray b.elem)):=by
 exact hh.Kb (Q5.alloc w xs b.elem) hlt hn hc

theorem xY {z:List L} {zs:List Value} (h:aX σ z zs): ∀ n,aX σ (ado n z) (List.replicate n zs).flatten
 | 0=> rfl
 | n+1=> by
   simp only [ado,List.replicate_succ,List.flatten_cons]
   exact h.append (xY h n)

theorem adp (n:Nat) (zs:List Value):
 ((Array.range (n*zs.length)).map fun i=> zs.toArray[i % zs.toArray.size]!)=(List.replicate n zs).flatten.toArray:=by
 apply Array.ext'
 simp only [Array.toList_map,Array.toList_range]
 induction n with
 | zero=> simp
 | succ n ih=>
   rw [List.replicate_succ',List.flatten_append,← ih]
   rw [Nat.add_mul,Nat.one_mul,List.range_add,List.map_append]
   congr 1
   simp only [List.flatten_cons,List.flatten_nil,List.append_nil,List.map_map]
   apply List.ext_getElem
   · simp
   · intro i h1 h2
     simp only [List.getElem_map,List.getElem_range,Function.comp]
     have:(n*zs.length+i) % zs.toArray.size=i:=by
      rw [List.size_toArray,Nat.mul_comm,Nat.mul_add_mod,Nat.mod_eq_of_lt h2]
     rw [this]
     simp [h2]

theorem adn {ts:List LT} {d:List D} {zs:List Value} (h:aT σ.w σ.im ts d zs) (n:Nat): ∀ i e,(List.replicate n d)[i]? =some e→
 aT σ.w σ.im ts e ((((List.replicate n zs).flatten).drop (i*bP ts)).take (bP ts)):=by
 have hl:=h.len
 intro i e hi
 have hin:i<n:=by
  have:=(List.getElem?_eq_some_iff.1 hi).1
  simpa using this
 have he:e=d:=by
  rw [List.getElem?_replicate,if_pos hin] at hi
  exact (Option.some.inj hi).symm
 subst he
 have key: ∀ (n i:Nat),i<n→(((List.replicate n zs).flatten).drop (i*zs.length)).take zs.length=zs:=by
  intro n
  induction n with
  | zero=> intro i hi; omega
  | succ n ih=>
    intro i hi
    rw [List.replicate_succ,List.flatten_cons]
    cases i with
    | zero=> simp
    | succ i=>
      rw [List.drop_append,List.drop_of_length_le (by rw [Nat.add_mul]; omega),List.nil_append,show (i+1)*zs.length - zs.length=i*zs.length by rw [Nat.add_mul]; omega]
      exact ih i (by omega)
 rw [← hl,key n i hin]
 exact h

theorem Ez {rw0:Bool} {o:Oper} {e:Operand→V} {ρ:Operand→Value} {id:Nat} {chk:List Bool} {v:V} {b:bQ} (he:jb rw0 P o.op e id=some (chk,v,b)) (ht:allT chk)
 (h: ∀ x,aQ σ (e x) (ρ x)):
 ∃ y xs,(execOp ρ o).run P w= .ok (.value y) (w.alloc (.cells xs.toArray b.elem))∧fD σ b.c xs∧aQ (upd σ id w.heap.size xs.length) v y:=by
 have hid: ∀ sz,upd σ id w.heap.size sz id=some w.heap.size:=fun sz=> dZ _ _ _ _
 obtain ⟨dst,op,type,pos,after,guard⟩:=o
 unfold jb at he
 simp only at he
 split at he
 · rename_i t
   split at he
   · rename_i z hz
     cases he
     obtain ⟨zv,hzr,hzp,_⟩:=zZ (w:=w) (σ:=σ) hz
     refine ⟨_,zv.cells.toList,?_,hzp,nY (hid _)⟩
     simp [execOp,Instr.alloc,hzr,newVar,newRow,newObj,Sem.run]
   · cases he
 · rename_i t x
   split at he
   · rename_i l hx
     split at he
     · cases he
     · cases he
       have hv:=h x
       rw [hx] at hv
       obtain ⟨h1,h2⟩:=hv
       have hcells:(ρ x).cells= #[ρ x]:=by
        cases hr:ρ x<;> first | rfl | (rw [hr] at h1; simp [oneCell] at h1)
       refine ⟨_,[ρ x],?_,⟨[ρ x],[],rfl,h2,rfl⟩,nY (hid _)⟩
       simp [execOp,Instr.box,newVar,newRow,newObj,Sem.run,hcells]
   · rename_i c hx
     cases he
     have hv:=h x
     rw [hx] at hv
     obtain ⟨xs,hxs,hc⟩:=hv
     refine ⟨_,xs,?_,hc,nY (hid _)⟩
     simp [execOp,Instr.box,newVar,newRow,newObj,Sem.run,hxs,Value.cells]
   · cases he
 · rename_i t n ps
   split at he
   · rename_i el hu
     split at he
     · rename_i z s hz hs
       split at he
       · rename_i l hl
         split at he
         · rename_i hc
           cases he
           obtain ⟨hs0,hzs,hn⟩:=of_decide_eq_true hc
           obtain ⟨zv,hzr,hzp,_⟩:=zZ (w:=w) (σ:=σ) hz
           have hzl:zv.cells.toList.length=s:=hzp.len.trans hzs
           have hrep:=xY hzp n
           rw [show (List.replicate n zv.cells.toList).flatten=(List.replicate n zv.cells.toList).flatten.toArray.toList by simp] at hrep
           obtain ⟨ys,hf,hys⟩:=oO (σ:=σ) (mplace:=fun i=> some (i*s,s)) (fun i p hp=> hp) hl hrep
            (vals:=(ps.map fun p=> (p.1,ρ p.2)).toList) (by rw [Array.toList_map]; exact eD.map_map _ _ _ fun p _=> ⟨rfl,h _⟩)
           refine ⟨_,ys,?_,hys,I4 (hid _)⟩
           have hre:=adp n zv.cells.toList
           rw [hzl] at hre
           simp only [Array.toArray_toList] at hre hf
           rw [← hre] at hf
           have c1: ¬ n*s > 2^24:=by omega
           have c3: ∀ (f g:Nat→Value),n*s=0→(Array.range (n*s)).map f=(Array.range (n*s)).map g:=by
            intro f g h0; rw [h0]; simp
           simp only [execOp,Instr.buildSlice,Sem.run_bind,run_underlying hu,Result.andThen_ok,run_sizeOf hs,Sem.run_ite,if_neg c1,Sem.run_pure]
           by_cases h0:n*s=0
           · rw [if_pos h0,c3 _ _ h0,hf]
             simp only [newRow,newObj,Sem.run_bind,Sem.run,Sem.run_pure,Result.andThen_ok]
             rfl
           · rw [if_neg h0,hzr]
             simp only [Result.andThen_ok,hf,newRow,newObj,Sem.run_bind,Sem.run,Sem.run_pure]
             rfl
         · cases he
       · cases he
     · cases he
   · cases he
 · rename_i t a b'
   split at he
   · rename_i el k n k' m hu ha hb
     split at he
     · rename_i z i hz hi
       split at he
       · rename_i hc
         obtain ⟨hs0,hzs⟩:=of_decide_eq_true hc
         have hva:=h a
         rw [ha] at hva
         obtain ⟨e1,hk1⟩:=nH hva
         have hvb:=h b'
         rw [hb] at hvb
         obtain ⟨e2,hk2⟩:=nH hvb
         obtain ⟨zv,hzr,hzp,_⟩:=zZ (w:=w) (σ:=σ) hz
         have hzl:zv.cells.toList.length=i.size:=hzp.len.trans hzs
         have hrep:=xY hzp m.toNat
         have hrun:0≤n→n≤m→m*(i.bytes:Int)≤140737488355328→m<9223372036854775808→
          (execOp ρ ⟨dst, .makeSlice t a b',type,pos,after,guard⟩).run P w= .ok (.value (.slice (some ⟨w.heap.size,0,none⟩) n.toNat m.toNat)) (w.alloc (.cells (List.replicate m.toNat zv.cells.toList).flatten.toArray el)):=by
          intro g1 g2 g3 g4
          have w1:IntKind.i64.wrap n=n:=by rw [← jN]; simp only [ak]; omega
          have w2:IntKind.i64.wrap m=m:=by rw [← jN]; simp only [ak]; omega
          have hre:=adp m.toNat zv.cells.toList
          rw [hzl] at hre
          simp only [Array.toArray_toList] at hre
          have hmt:((m.toNat:Nat):Int)=m:=by omega
          have hroom: ¬ m.toNat*i.bytes > roomBytes:=by
           have:((m.toNat*i.bytes:Nat):Int)≤140737488355328:=by push_cast; rw [hmt]; exact g3
           have h2:roomBytes=140737488355328:=rfl
           omega
          have hbm:((i.bytes:Int))*m≤140737488355328:=by rw [Int.mul_comm]; exact g3
          have tl:(decide (m<0) || decide ((i.bytes:Int)*m > 2^48))=false:=by
           simp; omega
          have c3: ∀ (f g:Nat→Value),m.toNat*i.size=0→(Array.range (m.toNat*i.size)).map f=(Array.range (m.toNat*i.size)).map g:=by
           intro f g h0; rw [h0]; simp
          have hsz:jG P el=some i.size:=by simp [jG,hi]
          have cnd:(((decide (m<0) || decide ((i.bytes:Int)*m > 2^48)) || decide (n<0) || decide (n > m))=true)=False:=by
           rw [tl]; simp; omega
          simp only [execOp,e1,e2,Instr.makeSlice,asInt,asIntOf,Sem.run_bind,Sem.run_pure,run_underlying hu,Result.andThen_ok,run_typeInfo hi,w1,w2,Sem.run_ite]
          simp only [cnd,if_false,askRoom,hroom,Sem.run_pure,Result.andThen_ok,run_sizeOf hsz]
          by_cases h0:m.toNat*i.size=0
          · rw [if_pos h0,c3 _ _ h0,hre]
            simp only [newRow,newObj,Sem.run_bind,Sem.run,Sem.run_pure,Result.andThen_ok]
            rfl
          · rw [if_neg h0,hzr]
            simp only [Result.andThen_ok,hre,newRow,newObj,Sem.run_bind,Sem.run,Sem.run_pure]
            rfl
         split at he
         · cases he
           have g1:0≤n:=of_decide_eq_true (ht _ (by simp))
           have g2:n≤m:=of_decide_eq_true (ht _ (by simp))
           have g3:m*(i.bytes:Int)≤140737488355328:=of_decide_eq_true (ht _ (by simp))
           have g4:m<9223372036854775808:=of_decide_eq_true (ht _ (by simp))
           exact ⟨_,_,hrun g1 g2 g3 g4,hrep,I4 (hid _)⟩
         · split at he
           · rename_i ts _
             split at he
             · rename_i d hd
               cases he
               have g1:0≤n:=of_decide_eq_true (ht _ (by simp))
               have g2:n≤m:=of_decide_eq_true (ht _ (by simp))
               have g3:m*(i.bytes:Int)≤140737488355328:=of_decide_eq_true (ht _ (by simp))
               have g4:m<4611686018427387904:=of_decide_eq_true (ht _ (by simp))
               have hds:=ql hd hzp
               have hsz:bP ts=i.size:=by rw [← hds.len,hzl]
               have hlen:(List.replicate m.toNat zv.cells.toList).flatten.length=m.toNat*i.size:=by simp [hzl]
               refine ⟨_,_,hrun g1 g2 g3 (by omega),⟨?_,?_,?_⟩,?_⟩
               · rw [hlen,List.length_replicate,hsz,Nat.mul_comm]; exact Nat.le_refl _
               · exact adn hds m.toNat
               · intro v hv
                 obtain ⟨l,hl,hv⟩:=List.mem_flatten.1 hv
                 rw [List.mem_replicate] at hl
                 rw [hl.2] at hv
                 exact hzp.mG v hv
               · have:=Ba (σ:=upd σ id w.heap.size (List.replicate m.toNat zv.cells.toList).flatten.length) (id:=id) (s:=i.size) (off:=0) (len:=n.toNat) (mx:=m.toNat) (cap:=m.toNat) (hid _) (by
                  show (0+m.toNat)*i.size=if w.heap.size=w.heap.size then _ else _
                  rw [if_pos rfl,hlen,Nat.zero_add]) (by omega) (Nat.le_refl _) (by simp only [maxLen]; omega)
                 simpa using this
             · cases he
           · cases he
       · cases he
     · cases he
   · cases he
 · cases he

theorem Kw (t:ByteArray) (W:World) (im:Nat→Prop): ∀ i e,(ofStr t)[i]? =some e→aT W im [.int .u8] e [Value.int .u8 (t.data.toList.getD i 0).toNat]:=by
 intro i e hi
 unfold ofStr at hi
 rw [List.getElem?_map] at hi
 cases hb:t.data.toList[i]? with
 | none=> rw [hb] at hi; cases hi
 | some b=>
   rw [hb] at hi
   cases hi
   rw [List.getD_eq_getElem?_getD,hb,Option.getD_some]
   simp only [aT,eF]
   refine ⟨_,_,rfl,⟨rfl,?_⟩,rfl⟩
   have:=b.toNat_lt
   simp [jm,D.xy]; omega

theorem Hm {rw0:Bool} {o:Oper} {e:Operand→V} {ρ:Operand→Value} {id:Nat} {chk:List Bool} {v:V} {b:bQ} (he:jO rw0 P o.op e id=some (chk,v,b)) (ht:allT chk)
 (h: ∀ x,aQ σ (e x) (ρ x)):
 ∃ y xs w',(execOp ρ o).run P w= .ok (.value y) w'∧Q5 w w' xs b.elem∧fD σ b.c xs∧aQ (upd σ id w.heap.size xs.length) v y:=by
 unfold jO at he
 split at he
 · rename_i s d x hop
   split at he
   · rename_i u el t hs hd hx
     split at he
     · rename_i hel
       cases he
       have hva:=h x
       rw [hx] at hva
       have hstr:ρ x= .string t:=by
        obtain ⟨_,hv⟩:=hva
        have hv: [ρ x]= [.string t]:=hv
        exact (List.cons.inj hv).1
       have hsz:t.size≤maxLen:=of_decide_eq_true (ht _ (by simp))
       have hrun:=Go.Lib.run_convert_string_bytes (P:=P) w s d el t hs hd hel
       have hge:=grownCap_ge w t.size 0 el
       have hcm:=grownCap_le_maxLen w t.size 0 el hsz
       have hcl:(Go.Lib.bytesCells w el t).toList.length=grownCap w t.size 0 el:=by
        simp [Go.Lib.bytesCells]
        have:t.data.size=t.size:=rfl
        omega
       refine ⟨.slice (some ⟨w.heap.size,0,none⟩) t.size (grownCap w t.size 0 el),(Go.Lib.bytesCells w el t).toList,Go.Lib.bytesWorld w el t,?_,⟨rfl,rfl,rfl,Go.Lib.bytesWorld_size w el t,fun n hn=> Go.Lib.bytesWorld_at_old w el t n hn,⟨_,by rw [Array.toArray_toList]; exact Go.Lib.bytesWorld_at_new w el t, .inr (by simp)⟩⟩,?_,?_⟩
       · obtain ⟨dst,op,type,pos,after,guard⟩:=o
         simp only at hop
         subst hop
         simp only [execOp,hstr,Sem.run_bind,hrun,Result.andThen_ok,Sem.run_pure]
       · have hyl:(ofStr t).length=t.size:=by
          unfold ofStr
          rw [List.length_map]; rfl
         have hcells:(Go.Lib.bytesCells w el t).toList=t.data.toList.map (fun b=> Value.int .u8 b.toNat)++List.replicate (grownCap w t.size 0 el - t.size) (.int .u8 0):=by
          simp [Go.Lib.bytesCells]
         refine ⟨?_,?_,?_⟩
         · rw [hcl,hyl]
           show 1*_≤_
           omega
         · intro i e hi
           have hil:i<t.data.toList.length:=by
            have:=(List.getElem?_eq_some_iff.1 hi).1
            rw [hyl] at this
            exact this
           have h1:=Kw t σ.w σ.im i e hi
           have h2:((Go.Lib.bytesCells w el t).toList.drop (i*bP [.int .u8])).take (bP [.int .u8])= [Value.int .u8 (t.data.toList.getD i 0).toNat]:=by
            have e1:bP [.int .u8]=1:=rfl
            rw [e1,Nat.mul_one,hcells,List.drop_eq_getElem_cons (by simp; simp at hil; omega)]
            rw [List.take_succ_cons,List.take_zero,List.getElem_append_left (by simpa using hil),List.getElem_map,List.getD_eq_getElem?_getD,List.getElem?_eq_getElem hil,Option.getD_some]
           rw [h2]
           exact h1
         · intro v hv
           rw [hcells] at hv
           rcases List.mem_append.1 hv with hv | hv
           · obtain ⟨b,_,rfl⟩:=List.mem_map.1 hv
             rfl
           · rw [List.mem_replicate] at hv
             rw [hv.2]; rfl
       · have:=Ba (σ:=upd σ id w.heap.size (Go.Lib.bytesCells w el t).toList.length) (id:=id) (s:=1) (off:=0) (len:=t.size) (mx:=t.size) (cap:=grownCap w t.size 0 el) (dZ _ _ _ _) (by
          show (0+grownCap w t.size 0 el)*1=if w.heap.size=w.heap.size then _ else _
          rw [if_pos rfl,hcl]; omega) (Nat.le_refl _) hge (by rw [Nat.zero_add]; exact hcm)
         simpa using this
     · cases he
   · cases he
 · obtain ⟨y,xs,h1,h2,h3⟩:=Ez (w:=w) (σ:=σ) he ht h
   exact ⟨y,xs,_,h1,Q5.alloc w xs b.elem,h2,h3⟩

end
end Vx

/-
  An executor of Go code on values of its own: append.
-/
namespace Vx
open Go Go.RowKit

section
variable {P:Program} {w:World} {σ:Sg} {ro:Nat}

theorem LW {t u ty e:TypeId} {d:TypeDesc} {i:TypeInfo} {z:Value} (ht:P.underlying t=some (.slice e)) (hu:P.underlying u=some d) (hd:d= .string∨ ∃ e',d= .slice e') (hi:P.info? e=some i) (hz:i.zero=some z)
 {a:Option Addr} {sLen sCap m:Nat} {x:Value} {olds news:List Value}
 (holds:(Builtin.firstCells i.size sLen (.slice a sLen sCap)).run P w.drew= .ok olds.toArray w.drew)
 (hlen:(Builtin.lenOf x).run P w= .ok m w) (hnews:(Builtin.firstCells i.size m x).run P w.drew= .ok news.toArray w.drew)
 (hg:sCap<sLen+m) (h63:((sLen+m:Nat):Int)≤9223372036854775807) (hfit:Builtin.nextslicecap (sLen+m) sCap*i.bytes≤281474976710656):
 (Builtin.append_ #[t,u] ty #[.slice a sLen sCap,x]).run P w=
  .ok (.slice (some ⟨w.heap.size,0,none⟩) (sLen+m) (grownCap w (sLen+m) sCap e))
   (w.drew.alloc (.cells (olds.toArray++news.toArray++Builtin.zeroCells z.cells (grownCap w (sLen+m) sCap e - (sLen+m))) e)):=by
 have hn: ¬ (sLen+m≤sCap):=by omega
 have h63': ¬ (9223372036854775807<((sLen:Int)+(m:Int))):=by omega
 have h48': ¬ (281474976710656<Builtin.nextslicecap (sLen+m) sCap*i.bytes):=by omega
 rcases hd with rfl | ⟨e',rfl⟩
 · simp [Builtin.append_,run_underlying ht,run_underlying hu,Go.sizeOf,typeInfo,zeroValue,hi,hz,hlen,hn,h63',h48',Question.forced,hnews,holds,newRow,grownCap]
   congr 2
   apply Array.ext'
   simp [List.append_assoc]
 · simp [Builtin.append_,run_underlying ht,run_underlying hu,Go.sizeOf,typeInfo,zeroValue,hi,hz,hlen,hn,h63',h48',Question.forced,hnews,holds,newRow,grownCap]
   congr 2
   apply Array.ext'
   simp [List.append_assoc]

theorem LY {t u ty e:TypeId} {d:TypeDesc} {i:TypeInfo} (ht:P.underlying t=some (.slice e)) (hu:P.underlying u=some d) (hd:d= .string∨ ∃ e',d= .slice e') (hi:P.info? e=some i)
 {g sLen sCap m:Nat} {x:Value} {cur:Array Value} {news:List Value} {fr:Nat × Nat} (hg:w.heap[g]? =some (.cells cur e fr)) (hfr:fr=(0,0)∨cur.size≤fr.1)
 (hlen:(Builtin.lenOf x).run P w= .ok m w) (hnews:(Builtin.firstCells i.size m x).run P w= .ok news.toArray w) (h1: ∀ u∈news,u.oneCell'=true)
 (hroom:sLen+m≤sCap) (hfit:sLen*i.size+news.length≤cur.size):
 (Builtin.append_ #[t,u] ty #[.slice (some ⟨g,0,none⟩) sLen sCap,x]).run P w=
  .ok (.slice (some ⟨g,0,none⟩) (sLen+m) sCap) (w.setRow g (cur.toList.take (sLen*i.size)++news++cur.toList.drop (sLen*i.size+news.length)).toArray):=by
 have hst:=jC P g (sLen*i.size) e fr news 0 cur w hg hfr (by simpa using hfit) h1
 simp only [Nat.add_zero] at hst
 rcases hd with rfl | ⟨e',rfl⟩
 · simp [Builtin.append_,run_underlying ht,run_underlying hu,Go.sizeOf,typeInfo,hi,hlen,hroom,hnews,Addr.add_lit,hst]
 · simp [Builtin.append_,run_underlying ht,run_underlying hu,Go.sizeOf,typeInfo,hi,hlen,hroom,hnews,Addr.add_lit,hst]

theorem LX {t u ty e:TypeId} {d:TypeDesc} {i:TypeInfo} (ht:P.underlying t=some (.slice e)) (hu:P.underlying u=some d) (hd:d= .string∨ ∃ e',d= .slice e') (hi:P.info? e=some i)
 {x:Value} {news:List Value} (hlen:(Builtin.lenOf x).run P w= .ok 0 w) (hnews:(Builtin.firstCells i.size 0 x).run P w= .ok news.toArray w):
 (Builtin.append_ #[t,u] ty #[.slice none 0 0,x]).run P w= .ok (.slice none 0 0) w:=by
 rcases hd with rfl | ⟨e',rfl⟩
 · simp [Builtin.append_,run_underlying ht,run_underlying hu,Go.sizeOf,typeInfo,hi,hlen,hnews]
 · simp [Builtin.append_,run_underlying ht,run_underlying hu,Go.sizeOf,typeInfo,hi,hlen,hnews]

structure Els (P:Program) (σ:Sg) (w:World) (ts:List LT) (s:Nat) (x:Value) (y:List (List D)) (news:List Value):Prop where
 len:(Builtin.lenOf x).run P w= .ok y.length w
 cells: ∀ w':World,w'.heap=w.heap→(Builtin.firstCells s y.length x).run P w'= .ok news.toArray w'
 size:news.length=s*y.length
 rel: ∀ i e,y[i]? =some e→aT σ.w σ.im ts e ((news.drop (i*s)).take s)
 mG: ∀ v∈news,oneCell v=true

theorem xc {n o s m cap:Nat} {xs:List Value} {t:TypeId} {fr:Nat × Nat} {w':World} (hg:w'.heap[n]? =some (.cells xs.toArray t fr)) (hs:o+m*s≤xs.length):
 (Builtin.firstCells s m (.slice (some ⟨n,o,none⟩) m cap)).run P w'= .ok ((xs.drop o).take (m*s)).toArray w':=by
 have hl:((xs.drop o).take (m*s)).length=m*s:=by simp; omega
 refine run_firstCells_some w' s m _ m cap _ hl ?_
 intro j v hj
 have hjs:j<m*s:=by
  have:=(List.getElem?_eq_some_iff.1 hj).1
  omega
 rw [List.getElem?_take_of_lt hjs,List.getElem?_drop] at hj
 rw [addr_add]
 simp [World.cell?,hg,hj]

theorem rE {ts:List LT}: ∀ {n:Nat} {l:List L} {x:List (List D)} {xs:List Value},Eh ts n l=some x→aX σ l xs→
 x.length=n∧n*bP ts≤xs.length∧ ∀ i e,x[i]? =some e→aT σ.w σ.im ts e ((xs.drop (i*bP ts)).take (bP ts))
 | 0,l,x,xs,h,_=> by cases h; simp
 | n+1,l,x,xs,h,hp=> by
   simp only [Eh] at h
   split at h
   · rename_i a r hsp
     split at h
     · rename_i d ds hd hds
       cases h
       obtain ⟨h1,h2,h3⟩:=dm hsp hp
       have hr:=ql hd h1
       obtain ⟨g1,g2,g3⟩:=rE hds h2
       rw [List.length_drop] at g2
       refine ⟨by simp [g1],by rw [Nat.add_mul]; omega,?_⟩
       intro i e hi
       cases i with
       | zero=>
         simp only [List.getElem?_cons_zero,Option.some.injEq] at hi
         subst hi
         simpa using hr
       | succ i=>
         rw [List.getElem?_cons_succ] at hi
         have:=g3 i e hi
         rw [List.drop_drop] at this
         rw [show (i+1)*bP ts=bP ts+i*bP ts by rw [Nat.add_mul]; omega]
         exact this
     · cases h
   · cases h

theorem Nq {xs:List Value} {ts:List LT} {x:List (List D)} {off len:Nat} (h: ∀ i e,x[i]? =some e→aT σ.w σ.im ts e ((xs.drop (i*bP ts)).take (bP ts))) (hl:off+len≤x.length) (hz:bP ts*x.length≤xs.length):
 ∀ i e,((x.drop off).take len)[i]? =some e→aT σ.w σ.im ts e (((((xs.drop (off*bP ts)).take (len*bP ts))).drop (i*bP ts)).take (bP ts)):=by
 intro i e hi
 rw [List.getElem?_take] at hi
 split at hi
 · rename_i hlt
   rw [List.getElem?_drop] at hi
   have:=h _ _ hi
   rw [List.drop_take,List.take_take,List.drop_drop,← Nat.add_mul]
   have e1:bP ts≤len*bP ts - i*bP ts:=by
    have:(i+1)*bP ts≤len*bP ts:=Nat.mul_le_mul_right _ hlt
    rw [Nat.add_mul] at this
    omega
   rw [Nat.min_eq_left e1]
   have _:=hl
   have _:=hz
   exact this
 · cases hi

theorem iB (a:Option Addr) (n c:Nat):(Builtin.lenOf (.slice a n c)).run P w= .ok n w:=by simp [Builtin.lenOf]

theorem zS {ts:List LT} {b:Nat}: ∀ (d:List (List D)) (o:Nat),(∀ i e,d[i]? =some e→ ∃ ys,aT σ.w σ.im ts e ys∧eH σ.w b (o+i*bP ts) ys)→
 ∃ news:List Value,news.length=bP ts*d.length∧eH σ.w b o news∧(∀ i e,d[i]? =some e→aT σ.w σ.im ts e ((news.drop (i*bP ts)).take (bP ts)))∧ ∀ v∈news,oneCell v=true
 | [],o,_=> ⟨[],by simp,fun j v hj=> by simp at hj,by simp,by simp⟩
 | e::d,o,h=> by
   obtain ⟨ys,h1,h2⟩:=h 0 e rfl
   obtain ⟨news,g1,g2,g3,g4⟩:=zS d (o+bP ts) (fun i e' hi=> by
    obtain ⟨ys,q1,q2⟩:=h (i+1) e' (by simpa using hi)
    refine ⟨ys,q1,?_⟩
    rw [show o+bP ts+i*bP ts=o+(i+1)*bP ts by rw [Nat.add_mul]; omega]
    exact q2)
   have hl:=h1.len
   refine ⟨ys++news,by simp [hl,g1,Nat.mul_add]; omega,Iz (by simpa using h2) (by rw [hl]; exact g2),?_,?_⟩
   · intro i e' hi
     cases i with
     | zero=>
       simp only [List.getElem?_cons_zero,Option.some.injEq] at hi
       subst hi
       simp only [Nat.zero_mul,List.drop_zero]
       rw [← hl,List.take_left]
       exact h1
     | succ i=>
       rw [List.getElem?_cons_succ] at hi
       have:=g3 i e' hi
       rw [List.drop_append,List.drop_of_length_le (by rw [hl,Nat.add_mul]; omega),List.nil_append,hl,show (i+1)*bP ts - bP ts=i*bP ts by rw [Nat.add_mul]; omega]
       exact this
   · intro v hv
     rcases List.mem_append.1 hv with hv | hv
     · have h2:aX (⟨fun _=> none,fun _=> 0,σ.w,σ.im⟩:Sg) (iX ts e) ys:=aX.iH.2 h1
       exact h2.mG v hv
     · exact g4 v hv

theorem ug {ts:List LT} {v:V} {h:Hp} {chk:List Bool} {y:List (List D)} {x:Value} (he:ko ts (hg h) v=some (chk,y)) (ht:allT chk) (hv:aQ σ v x) (hh:bT ro σ h w):
 ∃ news,Els P σ w ts (bP ts) x y news:=by
 unfold ko at he
 split at he
 · cases he
   obtain ⟨_,e⟩:=hv
   have e: [x]= [.slice none 0 0]:=e
   cases e
   exact ⟨[],⟨by simp [Builtin.lenOf],fun w' _=> by simp [Builtin.firstCells],by simp,by simp,by simp⟩⟩
 · rename_i us d
   split at he
   · rename_i hts
     cases he
     have:=lW hts
     subst this
     obtain ⟨a,cap,rfl,h1,h2⟩:=vrd hv
     rcases h2 with rfl | ⟨b,o,rfl,h2,h3⟩
     · refine ⟨[],⟨iB _ _ _,fun w' _=> ?_,by simp,by simp,by simp⟩⟩
       cases a with
       | none=> simp [Builtin.firstCells]
       | some a=> simp [Builtin.firstCells,loadCells,loadCellsFrom]
     · obtain ⟨news,g1,g2,g3,g4⟩:=zS _ o h3
       have hc:=hh.cells h2 g2
       refine ⟨news,⟨iB _ _ _,fun w' hw=> ?_,g1,g3,g4⟩⟩
       refine run_firstCells_some w' (bP ts) _ _ _ cap news (by rw [g1,Nat.mul_comm]) ?_
       intro j v hj
       rw [addr_add,← hc j v hj]
       exact World.cell?_of_block (by rw [hw])
   · cases he
 · rename_i id s off len mx
   split at he
   · rename_i b hb
     split at he
     · rename_i us d hbc
       split at he
       · rename_i hts
         cases he
         simp only [Bool.and_eq_true] at hts
         have:=lW hts.1
         subst this
         have hs:=of_decide_eq_true hts.2
         subst hs
         have hl:off+len≤d.length:=of_decide_eq_true (ht _ (by simp))
         have hyl:((d.drop off).take len).length=len:=by simp; omega
         rcases Ut hv with ⟨n,cap,hn,h2,h3,h4,h5,rfl⟩ | ⟨rfl,rfl,h3⟩
         · obtain ⟨xs,⟨fr,hg',_⟩,hc⟩:=hh.get hb hn
           rw [hbc] at hc
           obtain ⟨c1,c2,c3⟩:=hc
           have hle:off*bP ts+len*bP ts≤xs.length:=by
            rw [← Nat.add_mul]
            have:(off+len)*bP ts≤d.length*bP ts:=Nat.mul_le_mul_right _ hl
            rw [Nat.mul_comm] at c1; omega
           refine ⟨(xs.drop (off*bP ts)).take (len*bP ts),⟨by rw [hyl]; exact iB _ _ _,fun w' hw=> ?_,?_,Nq c2 hl c1,?_⟩⟩
           · rw [hyl]
             exact xc (by rw [hw]; exact hg') hle
           · rw [hyl,List.length_take,List.length_drop,Nat.mul_comm (bP ts)]; omega
           · intro v hv
             exact c3 v (List.mem_of_mem_drop (List.mem_of_mem_take hv))
         · have key: ∀ a, ∃ news,Els P σ w ts (bP ts) (.slice a 0 0) ((d.drop off).take 0) news:=by
            intro a
            refine ⟨[],⟨by simpa using iB a 0 0,fun w' _=> ?_,by simp,by simp,by simp⟩⟩
            cases a with
            | none=> simp [Builtin.firstCells]
            | some a=> simp [Builtin.firstCells,loadCells,loadCellsFrom]
           rcases h3 with ⟨_,rfl⟩ | ⟨_,a,rfl⟩
           · exact key _
           · exact key _
       · cases he
     · cases he
   · cases he
 · rename_i id off len cap
   split at he
   · rename_i b hb
     split at he
     · rename_i l hbc
       split at he
       · rename_i a r hsp
         split at he
         · rename_i d hd
           cases he
           obtain ⟨n,hn,rfl⟩:=vsl hv
           obtain ⟨xs,⟨fr,hg',_⟩,hc⟩:=hh.get hb hn
           rw [hbc] at hc
           obtain ⟨h1,h2,h3⟩:=dm hsp hc
           obtain ⟨g1,g2,g3⟩:=rE hd h2
           have hz:bP ts*y.length≤(xs.drop off).length:=by rw [g1,Nat.mul_comm]; exact g2
           have hle:off+len*bP ts≤xs.length:=by rw [List.length_drop] at g2; omega
           refine ⟨(xs.drop off).take (len*bP ts),⟨by rw [g1]; exact iB _ _ _,fun w' hw=> ?_,?_,?_,?_⟩⟩
           · rw [g1]
             exact xc (by rw [hw]; exact hg') hle
           · rw [g1,List.length_take,List.length_drop,Nat.mul_comm (bP ts)]; omega
           · have:=Nq (off:=0) (len:=len) g3 (by omega) hz
             simp only [Nat.zero_mul,List.drop_zero] at this
             rw [List.take_of_length_le (by omega)] at this
             exact this
           · intro u hu
             exact aX.mG hc u (List.mem_of_mem_drop (List.mem_of_mem_take hu))
         · cases he
       · cases he
     · cases he
   · cases he
 · cases he

theorem ag3 (s:ByteArray):Els P σ w [.int .u8] 1 (.string s) (ofStr s) (s.data.toList.map fun b=> Value.int .u8 (b.toNat:Int)):=by
 have hl:(ofStr s).length=s.size:=by simp [ofStr]
 refine ⟨?_,?_,?_,?_,?_⟩
 · rw [hl]; simp [Builtin.lenOf]
 · intro w' _
   rw [hl]
   simp only [Builtin.firstCells,Sem.run_pure]
   congr 1
   have hx:(s.extract 0 s.size)=s:=by simp
   rw [hx]
   apply Array.ext'
   simp
 · simp [hl]
 · intro i e hi
   simp only [ofStr,List.getElem?_map,Option.map_eq_some_iff] at hi
   obtain ⟨b,hb,rfl⟩:=hi
   have e1:(((s.data.toList.map fun b=> Value.int .u8 (b.toNat:Int)).drop (i*1)).take 1)= [Value.int .u8 (b.toNat:Int)]:=by
    have hlt:=(List.getElem?_eq_some_iff.1 hb).1
    rw [Nat.mul_one,List.drop_eq_getElem_cons (by simpa using hlt)]
    simp only [List.getElem_map,List.take_succ_cons,List.take_zero,List.cons.injEq,and_true]
    rw [(List.getElem?_eq_some_iff.1 hb).2]
   rw [e1]
   simp only [aT,eF,List.headD_cons,D.xy]
   refine ⟨_,[],rfl,⟨rfl,?_⟩,rfl⟩
   have:=b.toNat_lt
   simp [jm]; omega
 · intro v hv
   obtain ⟨b,_,rfl⟩:=List.mem_map.1 hv
   rfl

theorem bT.heap {h:Hp} (hh:bT ro σ h w) {w':World} (he:w'.heap=w.heap):bT ro σ h w':=
 ⟨fun id b hb=> by
  rcases hh.blk id b hb with ⟨n,xs,h1,h2,h3⟩ | h1
  · exact .inl ⟨n,xs,h1,h2.Nj (by rw [he]),h3⟩
  · exact .inr h1,hh.inj,fun i n hi=> by rw [he]; exact hh.live i n hi,fun i n hi=> by rw [he]; exact hh.siz i n hi,hh.sep,fun n hn=> by rw [he]; exact hh.imm n hn⟩

theorem bT.kill {h:Hp} (hh:bT ro σ h w) {k:Nat} {b:bQ} (hb:hg h k=some b):bT ro σ (h.set k (some ⟨b.elem, .dead⟩)) w:=by
 have hlt:=zf hb
 have hd: ∀ j,dR h j→dR (h.set k (some ⟨b.elem, .dead⟩)) j:=by
  rintro j ⟨e,he⟩
  by_cases hj:j=k
  · exact ⟨b.elem,by rw [fO hlt,if_pos hj]⟩
  · exact ⟨e,by rw [fO hlt,if_neg hj]; exact he⟩
 refine ⟨?_,?_,?_,hh.siz,hh.sep,hh.imm⟩
 · intro j b' hj
   rw [fO hlt] at hj
   by_cases hjk:j=k
   · rw [if_pos hjk] at hj
     cases hj
     subst hjk
     rcases hh.blk j b hb with ⟨n,xs,h1,h2,_⟩ | ⟨_,h2⟩
     · exact .inl ⟨n,xs,h1,h2,trivial⟩
     · exact .inr ⟨.inl rfl,h2⟩
   · rw [if_neg hjk] at hj
     exact hh.blk j b' hj
 · intro i j n hr hi hj
   rcases hh.inj i j n hr hi hj with e | e | e
   · exact .inl e
   · exact .inr (.inl (hd i e))
   · exact .inr (.inr (hd j e))
 · intro i n hi
   obtain ⟨h1,h2⟩:=hh.live i n hi
   refine ⟨h1,?_⟩
   rw [fO hlt]
   split
   · rfl
   · exact h2

theorem bT.move {h:Hp} (hh:bT ro σ h w) {k id n:Nat} {b:bQ} (hro:ro≤k) (hb:hg h k=some b) (hn:σ k=some n) (hnd:b.c≠ .dead) (hlt:id<h.length) (hnone:hg h id=none):
 Sub σ (upd σ id n (σ.z n))∧bT ro (upd σ id n (σ.z n)) ((h.set k (some ⟨b.elem, .dead⟩)).set id (some b)) w:=by
 have hsub:Sub σ (upd σ id n (σ.z n)):=wJ (hh.fresh hnone) (fun _ _=> rfl)
 have hk:=zf hb
 have hne:id≠k:=fun e=> by rw [e,hb] at hnone; cases hnone
 have hlt':id<(h.set k (some ⟨b.elem, .dead⟩)).length:=by simpa using hlt
 have hget: ∀ j,hg ((h.set k (some ⟨b.elem, .dead⟩)).set id (some b)) j=if j=id then some b else if j=k then some ⟨b.elem, .dead⟩ else hg h j:=by
  intro j
  rw [fO hlt',fO hk]
 have hndk: ¬ dR h k:=by
  rintro ⟨e,he⟩
  rw [hb] at he; cases he; exact hnd rfl
 have hd: ∀ j,j≠id→dR h j→dR ((h.set k (some ⟨b.elem, .dead⟩)).set id (some b)) j:=by
  rintro j hj ⟨e,he⟩
  by_cases hjk:j=k
  · exact ⟨b.elem,by rw [hget,if_neg hj,if_pos hjk]⟩
  · exact ⟨e,by rw [hget,if_neg hj,if_neg hjk]; exact he⟩
 have hdk:dR ((h.set k (some ⟨b.elem, .dead⟩)).set id (some b)) k:=⟨b.elem,by rw [hget,if_neg hne.symm,if_pos rfl]⟩
 have hsame: ∀ j m,j≠id→σ j=some n→m=n→dR ((h.set k (some ⟨b.elem, .dead⟩)).set id (some b)) j:=by
  intro j m hj hjn _
  by_cases hjk:j=k
  · rw [hjk]; exact hdk
  · rcases hh.inj k j n hro hn hjn with e | e | e
    · exact absurd e.symm hjk
    · exact absurd e hndk
    · exact hd j hj e
 refine ⟨hsub,?_,?_,?_,?_,?_,hh.imm⟩
 · intro j b' hj
   rw [hget] at hj
   by_cases h1:j=id
   · rw [if_pos h1] at hj
     cases hj
     subst h1
     obtain ⟨xs,g1,g2⟩:=hh.get hb hn
     exact .inl ⟨n,xs,dZ _ _ _ _,g1,g2.mono hsub⟩
   · rw [if_neg h1] at hj
     by_cases h2:j=k
     · rw [if_pos h2] at hj
       cases hj
       subst h2
       obtain ⟨xs,g1,g2⟩:=hh.get hb hn
       exact .inl ⟨n,xs,by rw [upd_ne h1]; exact hn,g1,trivial⟩
     · rw [if_neg h2] at hj
       rcases hh.blk j b' hj with ⟨m,xs,g1,g2,g3⟩ | ⟨g1,g2⟩
       · exact .inl ⟨m,xs,hsub.get g1,g2,g3.mono hsub⟩
       · exact .inr ⟨g1,by rw [upd_ne h1]; exact g2⟩
 · intro i j m hr hi hj
   by_cases h1:i=id<;> by_cases h2:j=id
   · exact .inl (h1.trans h2.symm)
   · subst h1
     rw [dZ] at hi; rw [upd_ne h2] at hj
     cases hi
     exact .inr (.inr (hsame j n h2 hj rfl))
   · subst h2
     rw [upd_ne h1] at hi; rw [dZ] at hj
     cases hj
     exact .inr (.inl (hsame i n h1 hi rfl))
   · rw [upd_ne h1] at hi; rw [upd_ne h2] at hj
     rcases hh.inj i j m hr hi hj with e | e | e
     · exact .inl e
     · exact .inr (.inl (hd i h1 e))
     · exact .inr (.inr (hd j h2 e))
 · intro i m hi
   rw [hget]
   by_cases h1:i=id
   · subst h1
     rw [dZ] at hi; cases hi
     rw [if_pos rfl]
     exact ⟨(hh.live k n hn).1,rfl⟩
   · rw [upd_ne h1] at hi
     rw [if_neg h1]
     refine ⟨(hh.live i m hi).1,?_⟩
     split
     · rfl
     · exact (hh.live i m hi).2
 · intro i m hi
   by_cases h1:i=id
   · subst h1
     rw [dZ] at hi; cases hi
     obtain ⟨cs,t,fr,g1,g2⟩:=hh.siz k n hn
     exact ⟨cs,t,fr,g1,by rw [(hsub.1 k n hn).2]; exact g2⟩
   · rw [upd_ne h1] at hi
     obtain ⟨cs,t,fr,g1,g2⟩:=hh.siz i m hi
     exact ⟨cs,t,fr,g1,by rw [(hsub.1 i m hi).2]; exact g2⟩
 · intro i m hr hi
   by_cases h1:i=id
   · subst h1
     rw [dZ] at hi; cases hi
     exact hh.sep k n hro hn
   · rw [upd_ne h1] at hi
     exact hh.sep i m hr hi

structure tH (P:Program) (ro:Nat) (σ:Sg) (w:World) (h':Hp) (v:V) (r:Result Value):Prop where
 ok: ∃ y w' σ',r= .ok y w'∧Sub σ σ'∧aQ σ' v y∧bT ro σ' h' w'∧ ∃ row,w.grownBy w' row∧(∀ n,row=some n→ ∃ i,ro≤i∧σ i=some n)∧(∀ i n,σ' i=some n→ro≤i→(∃ j,ro≤j∧σ j=some n)∨w.heap.size≤n)

theorem Wy {ts:List LT} {x y:List (List D)} {a b z:List Value} (h1:a.length=bP ts*x.length) (h2: ∀ i e,x[i]? =some e→aT σ.w σ.im ts e ((a.drop (i*bP ts)).take (bP ts)))
 (h3:b.length=bP ts*y.length) (h4: ∀ i e,y[i]? =some e→aT σ.w σ.im ts e ((b.drop (i*bP ts)).take (bP ts))) (hs: ∀ v∈a++b++z,oneCell v=true):
 fD σ (.row ts (x++y)) (a++b++z):=by
 refine ⟨by simp only [List.length_append,Nat.mul_add]; omega,?_,hs⟩
 intro i e hi
 have fits: ∀ m j,j<m→j*bP ts+bP ts≤bP ts*m:=by
  intro m j hj
  have:(j+1)*bP ts≤m*bP ts:=Nat.mul_le_mul_right _ hj
  rw [Nat.add_mul,Nat.mul_comm m] at this
  omega
 by_cases hlt:i<x.length
 · rw [List.getElem?_append_left hlt] at hi
   have hf:=fits _ _ hlt
   rw [List.append_assoc,List.drop_append_of_le_length (by omega),List.take_append_of_le_length (by rw [List.length_drop]; omega)]
   exact h2 i e hi
 · rw [List.getElem?_append_right (by omega)] at hi
   have hj:i - x.length<y.length:=(List.getElem?_eq_some_iff.1 hi).1
   have hf:=fits _ _ hj
   have e1:i*bP ts=a.length+(i - x.length)*bP ts:=by
    rw [h1,Nat.sub_mul,Nat.mul_comm (bP ts)]
    have:x.length*bP ts≤i*bP ts:=Nat.mul_le_mul_right _ (by omega)
    omega
   rw [e1,List.append_assoc,← List.drop_drop,List.drop_left,List.drop_append_of_le_length (by omega),List.take_append_of_le_length (by rw [List.length_drop]; omega)]
   exact h4 _ e hi

theorem aaD {t:TypeId} {i:TypeInfo} {z:List L} (h:Ay P t=some z) (hi:P.info? t=some i): ∃ v,i.zero=some v∧aX σ z v.cells.toList:=by
 unfold Ay at h
 rw [hi] at h
 simp only at h
 split at h
 · rename_i v hv
   split at h
   · rename_i l hl
     split at h
     · cases h
       exact ⟨v,hv,pO σ hl⟩
     · cases h
   · cases h
 · cases h

theorem Ux {z:Array Value} (h: ∀ v∈z.toList,oneCell v=true) (h0:0<z.size) (n:Nat): ∀ v∈(Builtin.zeroCells z n).toList,oneCell v=true:=by
 intro v hv
 simp only [Builtin.zeroCells,Array.toList_map,Array.toList_range,List.mem_map,List.mem_range] at hv
 obtain ⟨j,_,rfl⟩:=hv
 have hlt:j % z.size<z.size:=Nat.mod_lt _ h0
 rw [getElem!_pos z (j % z.size) hlt]
 exact h _ (by simp)

theorem bT.xS {h:Hp} (hh:bT ro σ h w) {id:Nat} {el:TypeId} {ts:List LT} (hlt:id<h.length) (hnone:hg h id=none):bT ro σ (h.set id (some ⟨el, .row ts []⟩)) w:=by
 have hf:=hh.fresh hnone
 have hd: ∀ j,dR h j→dR (h.set id (some ⟨el, .row ts []⟩)) j:=by
  rintro j ⟨e,he⟩
  refine ⟨e,?_⟩
  rw [fO hlt,if_neg]
  · exact he
  · rintro rfl; rw [hnone] at he; cases he
 refine ⟨?_,?_,?_,hh.siz,hh.sep,hh.imm⟩
 · intro j b hj
   rw [fO hlt] at hj
   by_cases hji:j=id
   · rw [if_pos hji] at hj
     cases hj
     exact .inr ⟨.inr ⟨ts,rfl⟩,by rw [hji]; exact hf⟩
   · rw [if_neg hji] at hj
     exact hh.blk j b hj
 · intro i j n hr hi hj
   rcases hh.inj i j n hr hi hj with e | e | e
   · exact .inl e
   · exact .inr (.inl (hd i e))
   · exact .inr (.inr (hd j e))
 · intro i n hi
   obtain ⟨h1,h2⟩:=hh.live i n hi
   refine ⟨h1,?_⟩
   rw [fO hlt]
   split
   · rfl
   · exact h2

theorem AU (o:Obj) (row:Option Nat):w.grownBy (w.drew.alloc o) row:=
 ⟨rfl,rfl,rfl,by simp,fun k hk _=> heap_alloc_old w.drew o k hk⟩

theorem DV {t u ty el:TypeId} {d:TypeDesc} {i:TypeInfo} {z:Value} {ts:List LT} {h:Hp} {id:Nat} (ht:P.underlying t=some (.slice el)) (hu:P.underlying u=some d) (hd:d= .string∨ ∃ e',d= .slice e') (hi:P.info? el=some i) (hz:i.zero=some z)
 (hzs:z.cells.size=i.size) (hz1: ∀ v∈z.cells.toList,oneCell v=true) (hs0:0<i.size) (hts:bP ts=i.size) (hh:bT ro σ h w) (hlt:id<h.length) (hnone:hg h id=none)
 {a:Option Addr} {sLen sCap:Nat} {x:Value} {old y:List (List D)} {olds news:List Value}
 (hol:olds.length=bP ts*old.length) (hos:old.length=sLen) (hor: ∀ i e,old[i]? =some e→aT σ.w σ.im ts e ((olds.drop (i*bP ts)).take (bP ts))) (ho1: ∀ v∈olds,oneCell v=true)
 (holds: ∀ w':World,w'.heap=w.heap→(Builtin.firstCells i.size sLen (.slice a sLen sCap)).run P w'= .ok olds.toArray w')
 (he:Els P σ w ts (bP ts) x y news) (hg:sCap<sLen+y.length) (hb:(sLen+y.length)*i.bytes≤140737488355328) (hm:sLen+y.length≤maxLen):
 tH P ro σ w (h.set id (some ⟨el, .row ts (old++y)⟩)) (.one (.row id i.size 0 (sLen+y.length) (sLen+y.length))) ((Builtin.append_ #[t,u] ty #[.slice a sLen sCap,x]).run P w):=by
 have hmx:sLen+y.length≤9223372036854775807:=by simp only [maxLen] at hm; omega
 have hr:=LW (ty:=ty) ht hu hd hi hz (holds w.drew rfl) he.len (by have:=he.cells w.drew rfl; rw [hts] at this; exact this) hg (by omega) (growslice_fits hg hb)
 have hge:=grownCap_ge w (sLen+y.length) sCap el
 have hcm:=grownCap_le_maxLen w (sLen+y.length) sCap el hm
 generalize grownCap w (sLen+y.length) sCap el=cap at*
 have hx:(olds.toArray++news.toArray++Builtin.zeroCells z.cells (cap - (sLen+y.length)))=(olds++news++(Builtin.zeroCells z.cells (cap - (sLen+y.length))).toList).toArray:=by
  apply Array.ext'; simp
 rw [hx] at hr
 have hrel:fD σ (.row ts (old++y)) (olds++news++(Builtin.zeroCells z.cells (cap - (sLen+y.length))).toList):=by
  refine Wy hol hor he.size he.rel ?_
  intro v hv
  rcases List.mem_append.1 hv with hv | hv
  · rcases List.mem_append.1 hv with hv | hv
    · exact ho1 v hv
    · exact he.mG v hv
  · exact Ux hz1 (by omega) _ v hv
 have hlen:(olds++news++(Builtin.zeroCells z.cells (cap - (sLen+y.length))).toList).length=cap*i.size:=by
  have h1:=size_zeroCells z.cells (cap - (sLen+y.length))
  simp only [List.length_append,Array.length_toList,h1,hol,he.size,hos,hts,hzs]
  rw [← Nat.mul_add,Nat.mul_comm,← Nat.add_mul]
  congr 1
  omega
 have hh':=(hh.heap (w':=w.drew) rfl).alloc (b:=⟨el, .row ts (old++y)⟩) hlt hnone hrel
 have hsub:Sub σ (upd σ id w.heap.size (olds++news++(Builtin.zeroCells z.cells (cap - (sLen+y.length))).toList).length):=
  wJ (hh.fresh hnone) (fun j hj=> by have:=(hh.live j _ hj).1; omega)
 refine ⟨_,_,_,hr,hsub,?_,hh',none,AU _ _,fun n hn=> (by cases hn),?_⟩
 · have:=Ba (σ:=upd σ id w.heap.size (olds++news++(Builtin.zeroCells z.cells (cap - (sLen+y.length))).toList).length) (id:=id) (s:=i.size) (off:=0) (len:=sLen+y.length) (mx:=sLen+y.length) (cap:=cap) (dZ _ _ _ _) (by
    show (0+cap)*i.size=if w.heap.size=w.heap.size then _ else _
    rw [if_pos rfl,hlen,Nat.zero_add]) (Nat.le_refl _) hge (by rw [Nat.zero_add]; exact hcm)
   simpa using this
 · intro j n hj hr
   by_cases h1:j=id
   · subst h1
     rw [dZ] at hj; cases hj
     exact .inr (Nat.le_refl _)
   · rw [upd_ne h1] at hj
     exact .inl ⟨j,hr,hj⟩

theorem MW {t u ty el:TypeId} {d:TypeDesc} {i:TypeInfo} {ts:List LT} {h:Hp} {id k g:Nat} {bk:bQ} (ht:P.underlying t=some (.slice el)) (hu:P.underlying u=some d) (hd:d= .string∨ ∃ e',d= .slice e') (hi:P.info? el=some i)
 (hts:bP ts=i.size) (hh:bT ro σ h w) (hlt:id<h.length) (hnone:hg h id=none) (hro:ro≤k) (hbk:hg h k=some bk) (hel:bk.elem=el) (hnd:bk.c≠ .dead) (hk:σ k=some g)
 {sLen sCap:Nat} {x:Value} {old y:List (List D)} {cur news:List Value} (hgg:fA w g cur el) (hcap:sCap*i.size=cur.length) (hc1: ∀ v∈cur,oneCell v=true) (hcz:sCap≤maxLen)
 (hos:old.length=sLen) (hor: ∀ i e,old[i]? =some e→aT σ.w σ.im ts e ((cur.drop (i*bP ts)).take (bP ts)))
 (he:Els P σ w ts (bP ts) x y news) (hroom:sLen+y.length≤sCap):
 tH P ro σ w ((h.set k (some ⟨el, .dead⟩)).set id (some ⟨el, .row ts (old++y)⟩)) (.one (.row id i.size 0 (sLen+y.length) (sLen+y.length))) ((Builtin.append_ #[t,u] ty #[.slice (some ⟨g,0,none⟩) sLen sCap,x]).run P w):=by
 have hnl:news.length=y.length*i.size:=by rw [he.size,hts,Nat.mul_comm]
 have hfit:sLen*i.size+news.length≤cur.length:=by
  rw [hnl,← Nat.add_mul,← hcap]; exact Nat.mul_le_mul_right _ hroom
 obtain ⟨frg,hgg0,hfrg⟩:=(show _ from hgg)
 have hr:=LY (ty:=ty) ht hu hd hi hgg0 (by simpa using hfrg) he.len (by have:=he.cells w rfl; rw [hts] at this; exact this) (fun v hv=> PV (he.mG v hv)) hroom (by simpa using hfit)
 simp only at hr
 have htk:(cur.take (sLen*i.size)).length=sLen*i.size:=by rw [List.length_take]; omega
 have hrel:fD σ (.row ts (old++y)) (cur.take (sLen*i.size)++news++cur.drop (sLen*i.size+news.length)):=by
  refine Wy (by rw [htk,hos,hts,Nat.mul_comm]) ?_ he.size he.rel ?_
  · intro j e hj
    have hjl:j<sLen:=by rw [← hos]; exact (List.getElem?_eq_some_iff.1 hj).1
    have:=hor j e hj
    rw [List.drop_take,List.take_take,Nat.min_eq_left]
    · exact this
    · rw [hts]
      have h3:(j+1)*i.size≤sLen*i.size:=Nat.mul_le_mul_right _ hjl
      rw [Nat.add_mul] at h3; omega
  · intro v hv
    rcases List.mem_append.1 hv with hv | hv
    · rcases List.mem_append.1 hv with hv | hv
      · exact hc1 v (List.mem_of_mem_take hv)
      · exact he.mG v hv
    · exact hc1 v (List.mem_of_mem_drop hv)
 have hlen:(cur.take (sLen*i.size)++news++cur.drop (sLen*i.size+news.length)).length=cur.length:=by
  simp only [List.length_append,htk,List.length_drop]; omega
 have hg2:fA w g cur bk.elem:=by rw [hel]; exact hgg
 have h1:=hh.set hro hbk hk hg2 hrel hnd hlen
 have hkl:=zf hbk
 have hne:id≠k:=fun e=> by rw [e,hbk] at hnone; cases hnone
 have hget:hg (h.set k (some ⟨bk.elem, .row ts (old++y)⟩)) k=some ⟨bk.elem, .row ts (old++y)⟩:=by rw [fO hkl,if_pos rfl]
 obtain ⟨hsub,h2⟩:=h1.move hro hget hk (by simp) (id:=id) (by simpa using hlt) (by rw [fO hkl,if_neg hne]; exact hnone)
 have hset:((h.set k (some ⟨bk.elem, .row ts (old++y)⟩)).set k (some ⟨bk.elem, .dead⟩)).set id (some ⟨bk.elem, .row ts (old++y)⟩)=(h.set k (some ⟨el, .dead⟩)).set id (some ⟨el, .row ts (old++y)⟩):=by
  rw [List.set_set,hel]
 simp only at h2
 rw [hset] at h2
 obtain ⟨cs,t',fr,g1,g2⟩:=hh.siz k g hk
 rw [hgg0] at g1
 simp only [Option.some.injEq,Obj.cells.injEq] at g1
 have hz:σ.z g=cur.length:=by rw [← g2,← g1.1]; simp
 refine ⟨_,_,_,hr,hsub,?_,h2,some g,⟨rfl,rfl,rfl,by simp,fun m _ hm=> setRow_other w g m _ (fun e=> hm (by rw [e]))⟩,fun n hn=> (by cases hn; exact ⟨k,hro,hk⟩),?_⟩
 · have:=Ba (σ:=upd σ id g (σ.z g)) (id:=id) (s:=i.size) (off:=0) (len:=sLen+y.length) (mx:=sLen+y.length) (cap:=sCap) (dZ _ _ _ _) (by
    show (0+sCap)*i.size=if g=g then σ.z g else σ.z g
    rw [if_pos rfl,hz,Nat.zero_add,hcap]) (Nat.le_refl _) hroom (by rw [Nat.zero_add]; exact hcz)
   simpa using this
 · intro j n hj hr
   by_cases h1:j=id
   · subst h1
     rw [dZ] at hj; cases hj
     exact .inl ⟨k,hro,hk⟩
   · rw [upd_ne h1] at hj
     exact .inl ⟨j,hr,hj⟩

theorem UE {t u ty el:TypeId} {d:TypeDesc} {i:TypeInfo} {z:Value} {ts:List LT} {h:Hp} {id:Nat} (ht:P.underlying t=some (.slice el)) (hu:P.underlying u=some d) (hd:d= .string∨ ∃ e',d= .slice e') (hi:P.info? el=some i) (hz:i.zero=some z)
 (hzs:z.cells.size=i.size) (hz1: ∀ v∈z.cells.toList,oneCell v=true) (hs0:0<i.size) (hts:bP ts=i.size) (hh:bT ro σ h w) (hlt:id<h.length) (hnone:hg h id=none)
 {x:Value} {y:List (List D)} {news:List Value} (he:Els P σ w ts (bP ts) x y news) (hb:y.length*i.bytes≤140737488355328) (hm:y.length≤maxLen):
 tH P ro σ w (h.set id (some ⟨el, .row ts y⟩)) (.one (.row id i.size 0 y.length y.length)) ((Builtin.append_ #[t,u] ty #[.slice none 0 0,x]).run P w):=by
 by_cases h0:y= []
 · subst h0
   have hr:=LX (ty:=ty) ht hu hd hi he.len (by have:=he.cells w rfl; rw [hts] at this; exact this)
   exact ⟨_,_,σ,hr,Sub.refl σ,⟨rfl, .inr ⟨rfl,rfl, .inl ⟨rfl,rfl⟩⟩⟩,hh.xS hlt hnone,none,⟨rfl,rfl,rfl,Nat.le_refl _,fun _ _ _=> rfl⟩,fun n hn=> (by cases hn),fun j n hj hr=> .inl ⟨j,hr,hj⟩⟩
 · have hpos:0<y.length:=List.length_pos_iff.2 h0
   have:=DV (ty:=ty) (σ:=σ) (ro:=ro) (old:= []) (olds:= []) (a:=none) (sLen:=0) (sCap:=0) ht hu hd hi hz hzs hz1 hs0 hts hh hlt hnone (by simp) rfl (by simp) (by simp)
    (fun w' _=> by simp [Builtin.firstCells]) he (by omega) (by rw [Nat.zero_add]; exact hb) (by rw [Nat.zero_add]; exact hm)
   simpa using this

theorem Nu {c:Call} {e:Operand→V} {ρ:Operand→Value} {h:Hp} {id:Nat} {chk:List Bool} {v:V} {us:List (Nat × bQ)} {ty:TypeId} (hev:BU P ro c e (hg h) id=some (chk,v,us)) (hck:allT chk)
 (hr: ∀ x,aQ σ (e x) (ρ x)) (hh:bT ro σ h w) (hlt:id<h.length) (hnone:hg h id=none):
 tH P ro σ w (dE h us) v ((Builtin.append_ c.argTypes ty (c.args.map ρ)).run P w):=by
 unfold BU at hev
 split at hev
 · rename_i a b t u hargs htys
   have e1:c.args.map ρ= #[ρ a,ρ b]:=by
    apply Array.ext'; simp [hargs]
   have e2:c.argTypes= #[t,u]:=by rw [← Array.toArray_toList (xs:=c.argTypes),htys]
   rw [e1,e2]
   split at hev
   · rename_i el ht
     split at hev
     · rename_i i ts z hi hty hz
       split at hev
       · rename_i chk1 y hcond hsrc
         obtain ⟨hs0,hts,hzsz⟩:=of_decide_eq_true hcond
         obtain ⟨zv,hz1,hz2⟩:=aaD (σ:=σ) hz hi
         have hzs:zv.cells.size=i.size:=by
          have:=hz2.len
          rw [hzsz] at this
          simpa using this
         -- the source
         have hsound:allT chk1→ ∃ d,P.underlying u=some d∧(d= .string∨ ∃ e',d= .slice e')∧ ∃ news,Els P σ w ts (bP ts) (ρ b) y news:=by
          intro hc1
          split at hsrc
          · rename_i e' hu
            split at hsrc
            · exact ⟨_,hu, .inr ⟨_,rfl⟩,ug hsrc hc1 (hr b) hh⟩
            · cases hsrc
          · rename_i hu
            split at hsrc
            · rename_i s hb
              cases hsrc
              have hv:=hr b
              rw [hb] at hv
              obtain ⟨_,ev⟩:=hv
              have ev: [ρ b]= [.string s]:=ev
              have ev2:ρ b= .string s:=(List.cons.inj ev).1
              rw [ev2]
              have hsz:bP [LT.int .u8]=1:=rfl
              rw [hsz]
              exact ⟨_,hu, .inl rfl,_,ag3 s⟩
            · cases hsrc
          · cases hsrc
         have hva:=hr a
         split at hev
         · rename_i hea
           cases hev
           rw [hea] at hva
           obtain ⟨_,ev⟩:=hva
           have ev: [ρ a]= [.slice none 0 0]:=ev
           have ev2:ρ a= .slice none 0 0:=(List.cons.inj ev).1
           rw [ev2]
           obtain ⟨hc1,hc2⟩:=eQ hck
           obtain ⟨d,hu,hd,news,hels⟩:=hsound hc1
           have g1:y.length*i.bytes≤140737488355328:=of_decide_eq_true (hc2 _ (by simp))
           have g2:y.length<4611686018427387904:=of_decide_eq_true (hc2 _ (by simp))
           exact UE ht hu hd hi hz1 hzs hz2.mG hs0 hts hh hlt hnone hels g1 (by simp only [maxLen]; omega)
         · rename_i k s off len mx hea
           rw [hea] at hva
           split at hev
           · rename_i bk hbk
             split at hev
             · rename_i us' x hbc
               split at hev
               · rename_i hcnd
                 cases hev
                 simp only [Bool.and_eq_true] at hcnd
                 obtain ⟨⟨q1,q2⟩,q3⟩:=hcnd
                 have:=lW q1
                 subst this
                 obtain ⟨rfl,rfl,hel⟩:=of_decide_eq_true q2
                 have hro:ro≤k:=Nat.le_of_ble_eq_true q3
                 obtain ⟨hc1,hc2⟩:=eQ hck
                 obtain ⟨d,hu,hd,news,hels⟩:=hsound hc1
                 have g0:len≤x.length:=of_decide_eq_true (hc2 _ (by simp))
                 have g1:(len+y.length)*i.bytes≤140737488355328:=of_decide_eq_true (hc2 _ (by simp))
                 have g2:len+y.length<4611686018427387904:=of_decide_eq_true (hc2 _ (by simp))
                 have hm:len+y.length≤maxLen:=by simp only [maxLen]; omega
                 have hkl:=zf hbk
                 have hne:id≠k:=fun e=> by rw [e,hbk] at hnone; cases hnone
                 have hkill:=hh.kill hbk
                 rw [hel] at hkill
                 have hlt2:id<(h.set k (some ⟨el, .dead⟩)).length:=by simpa using hlt
                 have hnone2:hg (h.set k (some ⟨el, .dead⟩)) id=none:=by rw [fO hkl,if_neg hne]; exact hnone
                 simp only [dE]
                 rcases Ut hva with ⟨g,cap,hk,r2,r3,r4,r5,ev⟩ | ⟨rfl,rfl,r3⟩
                 · rw [ev]
                   obtain ⟨xs,hgg,hcr⟩:=hh.get hbk hk
                   rw [hbc] at hcr
                   rw [hel] at hgg
                   obtain ⟨k1,k2,k3⟩:=hcr
                   obtain ⟨cs,t',fr,m1,m2⟩:=hh.siz k g hk
                   obtain ⟨frg,hgg0,_⟩:=(show _ from hgg)
                   rw [hgg0] at m1
                   simp only [Option.some.injEq,Obj.cells.injEq] at m1
                   have hcl:cap*i.size=xs.length:=by
                    rw [Nat.zero_add] at r2
                    rw [r2,← m2,← m1.1]; simp
                   have hxl:(x.take len).length=len:=by rw [List.length_take]; omega
                   have hrel: ∀ j e',(x.take len)[j]? =some e'→aT σ.w σ.im ts e' ((xs.drop (j*bP ts)).take (bP ts)):=by
                    intro j e' hj
                    rw [List.getElem?_take] at hj
                    split at hj
                    · exact k2 j e' hj
                    · cases hj
                   rw [Nat.zero_mul]
                   by_cases hroom:len+y.length≤cap
                   · exact MW ht hu hd hi hts hh hlt hnone hro hbk hel (by rw [hbc]; simp) hk hgg hcl k3 (by omega) hxl hrel hels hroom
                   · have hle:0+len*bP ts≤xs.length:=by
                      rw [Nat.zero_add]
                      have:len*bP ts≤x.length*bP ts:=Nat.mul_le_mul_right _ g0
                      rw [Nat.mul_comm] at k1; omega
                     have htl:(xs.take (len*bP ts)).length=len*bP ts:=by rw [List.length_take]; omega
                     refine DV ht hu hd hi hz1 hzs hz2.mG hs0 hts hkill hlt2 hnone2 (olds:=xs.take (len*bP ts)) (by rw [htl,hxl,Nat.mul_comm]) hxl ?_ (fun v hv=> k3 v (List.mem_of_mem_take hv)) ?_ hels (by omega) g1 hm
                     · intro j e' hj
                       have hjl:j<len:=by rw [← hxl]; exact (List.getElem?_eq_some_iff.1 hj).1
                       rw [List.drop_take,List.take_take,Nat.min_eq_left]
                       · exact hrel j e' hj
                       · have h3:(j+1)*bP ts≤len*bP ts:=Nat.mul_le_mul_right _ hjl
                         rw [Nat.add_mul] at h3; omega
                     · intro w' hw
                       rw [← hts]
                       have hlc:(xs.take (len*bP ts)).length=len*bP ts:=htl
                       refine run_firstCells_some w' (bP ts) len _ len cap _ hlc ?_
                       intro j v hj
                       have hjs:j<len*bP ts:=by
                        have:=(List.getElem?_eq_some_iff.1 hj).1
                        omega
                       rw [List.getElem?_take_of_lt hjs] at hj
                       rw [addr_add,Nat.zero_add]
                       obtain ⟨frw,hgw,_⟩:=hgg.Nj (w':=w') (by rw [hw])
                       simp [World.cell?,hgw,hj]
                 · rcases r3 with ⟨_,ev⟩ | ⟨r3,_⟩
                   · rw [ev]
                     simp only [Nat.zero_add,List.take_zero,List.nil_append] at*
                     exact UE ht hu hd hi hz1 hzs hz2.mG hs0 hts hkill hlt2 hnone2 hels g1 hm
                   · omega
               · cases hev
             · cases hev
           · cases hev
         · rename_i k off len cap hea
           rw [hea] at hva
           split at hev
           · rename_i bk hbk
             split at hev
             · rename_i l hbc
               split at hev
               · rename_i x hcnd hdec
                 cases hev
                 simp only [Bool.and_eq_true] at hcnd
                 obtain ⟨q2,q3⟩:=hcnd
                 obtain ⟨rfl,hcs,hel,hlc⟩:=of_decide_eq_true q2
                 have hro:ro≤k:=Nat.le_of_ble_eq_true q3
                 obtain ⟨hc1,hc2⟩:=eQ hck
                 obtain ⟨d,hu,hd,news,hels⟩:=hsound hc1
                 have g1:(len+y.length)*i.bytes≤140737488355328:=of_decide_eq_true (hc2 _ (by simp))
                 have g2:len+y.length<4611686018427387904:=of_decide_eq_true (hc2 (decide (len+y.length<4611686018427387904)) (by simp))
                 have g3:cap<4611686018427387904:=of_decide_eq_true (hc2 (decide (cap<4611686018427387904)) (by simp))
                 have hm:len+y.length≤maxLen:=by simp only [maxLen]; omega
                 have hkl:=zf hbk
                 have hne:id≠k:=fun e=> by rw [e,hbk] at hnone; cases hnone
                 have hkill:=hh.kill hbk
                 rw [hel] at hkill
                 have hlt2:id<(h.set k (some ⟨el, .dead⟩)).length:=by simpa using hlt
                 have hnone2:hg (h.set k (some ⟨el, .dead⟩)) id=none:=by rw [fO hkl,if_neg hne]; exact hnone
                 simp only [dE]
                 obtain ⟨g,hk,ev⟩:=vsl hva
                 rw [ev]
                 obtain ⟨xs,hgg,hcr⟩:=hh.get hbk hk
                 rw [hbc] at hcr
                 rw [hel] at hgg
                 have hcr:aX σ l xs:=hcr
                 have hcl:cap*i.size=xs.length:=by rw [hcs,hcr.len]
                 obtain ⟨d1,d2,d3⟩:=rE hdec hcr
                 by_cases hroom:len+y.length≤cap
                 · have:=MW (ty:=ty) ht hu hd hi hts hh hlt hnone hro hbk hel (by rw [hbc]; simp) hk hgg hcl hcr.mG (by simp only [maxLen]; omega) d1 d3 hels hroom
                   exact this
                 · have htl:(xs.take (len*bP ts)).length=len*bP ts:=by rw [List.length_take]; omega
                   refine DV ht hu hd hi hz1 hzs hz2.mG hs0 hts hkill hlt2 hnone2 (olds:=xs.take (len*bP ts)) (by rw [htl,d1,Nat.mul_comm]) d1 ?_ (fun v hv=> hcr.mG v (List.mem_of_mem_take hv)) ?_ hels (by omega) g1 hm
                   · intro j e' hj
                     have hjl:j<len:=by rw [← d1]; exact (List.getElem?_eq_some_iff.1 hj).1
                     rw [List.drop_take,List.take_take,Nat.min_eq_left]
                     · exact d3 j e' hj
                     · have h3:(j+1)*bP ts≤len*bP ts:=Nat.mul_le_mul_right _ hjl
                       rw [Nat.add_mul] at h3; omega
                   · intro w' hw
                     rw [← hts]
                     refine run_firstCells_some w' (bP ts) len _ len cap _ htl ?_
                     intro j v hj
                     have hjs:j<len*bP ts:=by
                      have:=(List.getElem?_eq_some_iff.1 hj).1
                      omega
                     rw [List.getElem?_take_of_lt hjs] at hj
                     rw [addr_add,Nat.zero_add]
                     obtain ⟨frw,hgw,_⟩:=hgg.Nj (w':=w') (by rw [hw])
                     simp [World.cell?,hgw,hj]
               · cases hev
             · cases hev
           · cases hev
         · cases hev
       · cases hev
     · cases hev
   · cases hev
 · cases hev
end
end Vx

/-
  An executor of Go code on values of its own: bytes as a text.
-/
namespace Vx
open Go Go.RowKit

section
variable {P:Program} {σ:Sg} {w:World} {ro:Nat}

theorem BS {ts:List LT} {v:V} {h:Hp} {chk:List Bool} {y:List (List D)} {x:Value} (he:ko ts (hg h) v=some (chk,y)) (hv:aQ σ v x): ∃ a n c,x= .slice a n c:=by
 unfold ko at he
 split at he
 · obtain ⟨_,e⟩:=hv
   have e: [x]= [.slice none 0 0]:=e
   cases e
   exact ⟨_,_,_,rfl⟩
 · obtain ⟨a,cap,rfl,_⟩:=vrd hv
   exact ⟨_,_,_,rfl⟩
 · obtain ⟨_,e⟩:=hv
   rcases e with ⟨b,cap,_,_,_,_,_,e⟩ | ⟨_,_,⟨_,e⟩ | ⟨_,a,e⟩⟩<;> cases e<;> exact ⟨_,_,_,rfl⟩
 · obtain ⟨b,_,rfl⟩:=vsl hv
   exact ⟨_,_,_,rfl⟩
 · cases he

theorem KP {s d:TypeId} {a v:V} {h:Hp} {x:Value} (he:Gives (um P s d a (hg h)) v) (ha:aQ σ a x) (hh:bT ro σ h w):
 ∃ y,(convert s d x).run P w= .ok y w∧aQ σ v y:=by
 unfold um at he
 split at he
 · rename_i e hs hd
   split at he
   · rename_i chk y hu hels
     cases he with
     | val ht=>
       obtain ⟨l,n,c,rfl⟩:=BS hels ha
       obtain ⟨news,h1,h2,h3,h4,h5⟩:=ug (P:=P) hels ht ha hh
       have hn:n=y.length:=by
        have:=h1
        rw [iB] at this
        cases this; rfl
       subst hn
       have hnews:news=(y.map fun d=> (H9 d).xy).map (Value.int .u8):=by
        apply List.ext_getElem?
        intro i
        have h3:news.length=1*y.length:=h3
        by_cases hi:i<y.length
        · have hr:=h4 i _ (List.getElem?_eq_getElem hi)
          have e1:(news.drop (i*bP [.int .u8])).take (bP [.int .u8])= [news[i]'(by omega)]:=by
           have:bP [.int .u8]=1:=rfl
           rw [this,Nat.mul_one,List.drop_eq_getElem_cons (by omega)]
           rfl
          rw [e1] at hr
          simp only [aT,eF] at hr
          obtain ⟨ys,zs,e2,⟨rfl,_⟩,rfl⟩:=hr
          simp only [List.append_nil,List.cons.injEq,and_true] at e2
          rw [List.getElem?_eq_getElem (by omega),e2]
          simp [List.getElem?_eq_getElem hi,H9]
        · rw [List.getElem?_eq_none (by omega),List.getElem?_eq_none (by simp; omega)]
       rw [run_convert_bytes_string w s d e l y.length c hs hu hd]
       cases l with
       | none=>
         have h2:=h2 w rfl
         simp only [Builtin.firstCells,Sem.run_pure] at h2
         have hn:news= []:=by cases h2; rfl
         have hy:y= []:=by
          rw [hn] at h3
          cases y with
          | nil=> rfl
          | cons _ _=> simp [bP,LT.sz] at h3
         subst hy
         exact ⟨.string ByteArray.empty,by simp [Conv.bytesToString],rfl,rfl⟩
       | some l=>
         have h2:=h2 w rfl
         simp only [Builtin.firstCells] at h2
         have e1:y.length*bP [LT.int IntKind.u8]=y.length:=by simp [bP,LT.sz]
         rw [e1,hnews] at h2
         refine ⟨_,run_bytesToString w l y.length c _ h2,rfl,?_⟩
         show [_]= [Value.string (toStr y)]
         rw [foldl_push_bytes]
         simp only [toStr,List.map_map,List.cons.injEq,Value.string.injEq,and_true]
         show _=(⟨_⟩:ByteArray)
         congr 1
         have:ByteArray.empty.data= #[]:=rfl
         rw [this,Array.empty_append]
         rfl
   · cases he
 · cases he

theorem yX {ts:List LT}: ∀ {y:List (List D)} {news:List Value},news.length=bP ts*y.length→(∀ i e,y[i]? =some e→aT σ.w σ.im ts e ((news.drop (i*bP ts)).take (bP ts)))→
 aX σ (y.flatMap (iX ts)) news
 | [],news,hl,_=> by
   have:news= []:=List.eq_nil_of_length_eq_zero (by simpa using hl)
   subst this
   rfl
 | e::y,news,hl,h=> by
   have h0:=h 0 e rfl
   rw [Nat.zero_mul,List.drop_zero] at h0
   rw [List.length_cons,Nat.mul_succ] at hl
   rw [List.flatMap_cons,← List.take_append_drop (bP ts) news]
   refine aX.append (aX.iH.2 h0) (yX (by rw [List.length_drop]; omega) fun i e' hi=> ?_)
   have:=h (i+1) e' (by simpa using hi)
   rw [List.drop_drop]
   rw [Nat.add_mul,Nat.one_mul,Nat.add_comm] at this
   exact this

theorem KG {c:Call} {e:Operand→V} {ρ:Operand→Value} {h:Hp} {chk:List Bool} {v:V} {us:List (Nat × bQ)} {ty:TypeId} (hev:xL P ro c e (hg h)=some (chk,v,us)) (hck:allT chk)
 (hr: ∀ x,aQ σ (e x) (ρ x)) (hh:bT ro σ h w):tH P ro σ w (dE h us) v ((Builtin.copy_ c.argTypes ty (c.args.map ρ)).run P w):=by
 unfold xL at hev
 split at hev
 · rename_i a b t u hargs htys
   have e1:c.args.map ρ= #[ρ a,ρ b]:=by
    apply Array.ext'; simp [hargs]
   have e2:c.argTypes= #[t,u]:=by rw [← Array.toArray_toList (xs:=c.argTypes),htys]
   rw [e1,e2]
   split at hev
   · rename_i el ht
     split at hev
     · rename_i i ts hi hts
       split at hev
       · rename_i chk1 y k off len cap hels hva
         split at hev
         · rename_i bk hbk
           split at hev
           · rename_i chk2 c' hcnd hset
             cases hev
             simp only [Bool.and_eq_true] at hcnd
             obtain ⟨q2,q3⟩:=hcnd
             obtain ⟨hsz,hle⟩:=of_decide_eq_true q2
             have hro:ro≤k:=Nat.le_of_ble_eq_true q3
             obtain ⟨hc1,hc2⟩:=eQ hck
             obtain ⟨hc3,hc4⟩:=fT hc2
             have hlt:y.length<4611686018427387904:=of_decide_eq_true hc3
             obtain ⟨news,h1,h2,h3,h4,h5⟩:=ug (P:=P) hels hc1 (hr b) hh
             have hv:=hr a
             rw [hva] at hv
             obtain ⟨n,hn,ev⟩:=vsl hv
             rw [ev]
             obtain ⟨xs,hgg,hcr⟩:=hh.get hbk hn
             have hpr:aX σ (y.flatMap (iX ts)) news:=yX h3 h4
             have hlen:news.length=y.length*i.size:=by rw [h3,hsz,Nat.mul_comm]
             obtain ⟨hc',hle2⟩:=j5 hset hc4 hcr hpr hlen
             obtain ⟨frg,hgg0,hfrg⟩:=(show _ from hgg)
             have hst:=jC P n off bk.elem frg news 0 xs.toArray w hgg0 (by simpa using hfrg) (by simp; omega) (fun v hv=> PV (h5 v hv))
             refine ⟨⟨goInt y.length,w.setRow n (xs.take off++news++xs.drop (off+y.length*i.size)).toArray,σ,?_,Sub.refl _,⟨rfl,rfl,?_⟩,hh.set hro hbk hn hgg hc' (wm hset) (oU hlen hle2),some n,?_,?_,?_⟩⟩
             · have hmin:Nat.min y.length len=y.length:=Nat.min_eq_left hle
               have hcl:=h2 w rfl
               rw [hsz] at hcl
               simp [Builtin.copy_,run_underlying ht,Go.sizeOf,typeInfo,hi,h1,hmin,hcl]
               rw [hst]
               simp [hlen]
             · simp [jm]; omega
             · refine ⟨rfl,rfl,rfl,by simp,fun j hj hne=> ?_⟩
               exact setRow_other w n j _ (fun e=> hne (by rw [e]))
             · intro m hm; cases hm; exact ⟨k,hro,hn⟩
             · intro j m hj hrj; exact .inl ⟨j,hrj,hj⟩
           · cases hev
         · cases hev
       · cases hev
     · cases hev
   · cases hev
 · cases hev

theorem Hq {c:Call} {e:Operand→V} {ρ:Operand→Value} {h:Hp} {chk:List Bool} {v:V} {us:List (Nat × bQ)} {ty:TypeId} (hev:rG P ro c e (hg h)=some (chk,v,us)) (hck:allT chk)
 (hr: ∀ x,aQ σ (e x) (ρ x)) (hh:bT ro σ h w):tH P ro σ w (dE h us) v ((Builtin.copy_ c.argTypes ty (c.args.map ρ)).run P w):=by
 unfold rG at hev
 split at hev
 · rename_i a b t u hargs htys
   have e1:c.args.map ρ= #[ρ a,ρ b]:=by
    apply Array.ext'; simp [hargs]
   have e2:c.argTypes= #[t,u]:=by rw [← Array.toArray_toList (xs:=c.argTypes),htys]
   rw [e1,e2]
   split at hev
   · rename_i el ht
     split at hev
     · rename_i i ts hi hts
       split at hev
       · rename_i us0 d k off len cap hvb hva
         split at hev
         · rename_i bk hbk
           split at hev
           · rename_i chk2 c' hcnd hset
             cases hev
             simp only [Bool.and_eq_true] at hcnd
             obtain ⟨q1,q2,q3⟩:=hcnd
             have:=lW q1
             subst this
             obtain ⟨hsz,hle⟩:=of_decide_eq_true q2
             have hro:ro≤k:=Nat.le_of_ble_eq_true q3
             obtain ⟨hc3,hc4⟩:=fT hck
             have hlt:len<4611686018427387904:=of_decide_eq_true hc3
             have hvd:=hr b
             rw [hvb] at hvd
             obtain ⟨a0,cap0,eb,_,h2⟩:=vrd hvd
             rw [eb]
             rcases h2 with rfl | ⟨b0,o0,rfl,him,h3⟩
             · simp at hle
             have hyl:(d.take len).length=len:=by rw [List.length_take]; omega
             obtain ⟨news,g1,g2,h4,h5⟩:=zS (ts:=ts) (d.take len) o0 (fun i e hi=> by
              rw [List.getElem?_take] at hi
              split at hi
              · exact h3 i e hi
              · cases hi)
             rw [hyl] at g1
             have hcc:=hh.cells him g2
             have hv:=hr a
             rw [hva] at hv
             obtain ⟨n,hn,ev⟩:=vsl hv
             rw [ev]
             obtain ⟨xs,hgg,hcr⟩:=hh.get hbk hn
             have hpr:aX σ ((d.take len).flatMap (iX ts)) news:=yX (by rw [hyl]; exact g1) h4
             have hlen:news.length=len*i.size:=by rw [g1,hsz,Nat.mul_comm]
             obtain ⟨hc',hle2⟩:=j5 hset hc4 hcr hpr hlen
             obtain ⟨frg,hgg0,hfrg⟩:=(show _ from hgg)
             have hst:=jC P n off bk.elem frg news 0 xs.toArray w hgg0 (by simpa using hfrg) (by simp; omega) (fun v hv=> PV (h5 v hv))
             refine ⟨⟨goInt len,w.setRow n (xs.take off++news++xs.drop (off+len*i.size)).toArray,σ,?_,Sub.refl _,⟨rfl,rfl,?_⟩,hh.set hro hbk hn hgg hc' (wm hset) (oU hlen hle2),some n,?_,?_,?_⟩⟩
             · have hmin:Nat.min d.length len=len:=Nat.min_eq_right (Nat.le_of_lt hle)
               have hcl:(Builtin.firstCells i.size len (.slice (some ⟨b0,o0,none⟩) d.length cap0)).run P w= .ok news.toArray w:=by
                rw [← hsz]
                refine run_firstCells_some w (bP ts) len _ d.length cap0 news (by rw [g1,Nat.mul_comm]) ?_
                intro j v hj
                rw [addr_add,← hcc j v hj]
               simp [Builtin.copy_,run_underlying ht,Go.sizeOf,typeInfo,hi,iB,hmin,hcl]
               rw [hst]
               simp [hlen]
             · simp [jm]; omega
             · refine ⟨rfl,rfl,rfl,by simp,fun j hj hne=> ?_⟩
               exact setRow_other w n j _ (fun e=> hne (by rw [e]))
             · intro m hm; cases hm; exact ⟨k,hro,hn⟩
             · intro j m hj hrj; exact .inl ⟨j,hrj,hj⟩
           · cases hev
         · cases hev
       · cases hev
     · cases hev
   · cases hev
 · cases hev
theorem Tc {d:List (List D)} {len:Nat} (h:len≤d.length):((List.range len).map fun j=> d.getD j [])=d.take len:=by
 apply List.ext_getElem?
 intro i
 by_cases hi:i<len
 · rw [List.getElem?_map,List.getElem?_range hi,List.getElem?_take_of_lt hi]
   show some (d.getD i [])=_
   rw [List.getD_eq_getElem?_getD,List.getElem?_eq_getElem (show i<d.length by omega)]
   rfl
 · rw [List.getElem?_eq_none (by simp; omega),List.getElem?_eq_none (by simp; omega)]
theorem Hr {c:Call} {e:Operand→V} {ρ:Operand→Value} {h:Hp} {chk:List Bool} {v:V} {us:List (Nat × bQ)} {ty:TypeId} (hev:rH P ro c e (hg h)=some (chk,v,us)) (hck:allT chk)
 (hr: ∀ x,aQ σ (e x) (ρ x)) (hh:bT ro σ h w):tH P ro σ w (dE h us) v ((Builtin.copy_ c.argTypes ty (c.args.map ρ)).run P w):=by
 unfold rH at hev
 split at hev
 · rename_i a b t u hargs htys
   have e1:c.args.map ρ= #[ρ a,ρ b]:=by
    apply Array.ext'; simp [hargs]
   have e2:c.argTypes= #[t,u]:=by rw [← Array.toArray_toList (xs:=c.argTypes),htys]
   rw [e1,e2]
   split at hev
   · rename_i el ht
     split at hev
     · rename_i i ts hi hts
       split at hev
       · rename_i us0 d k off len cap hvb hva
         split at hev
         · rename_i bk hbk
           split at hev
           · rename_i chk2 c' hcnd hset
             cases hev
             simp only [Bool.and_eq_true] at hcnd
             obtain ⟨q1,q2,q3⟩:=hcnd
             have:=lW q1
             subst this
             obtain ⟨hsz,hle⟩:=of_decide_eq_true q2
             have hro:ro≤k:=Nat.le_of_ble_eq_true q3
             obtain ⟨hc0,hck⟩:=fT hck
             have hle':len≤d.length:=of_decide_eq_true hc0
             rw [Tc hle'] at hset
             obtain ⟨hc3,hc4⟩:=fT hck
             have hlt:len<4611686018427387904:=of_decide_eq_true hc3
             have hvd:=hr b
             rw [hvb] at hvd
             obtain ⟨a0,cap0,eb,_,h2⟩:=vrd hvd
             rw [eb]
             rcases h2 with rfl | ⟨b0,o0,rfl,him,h3⟩
             · simp at hle'; omega
             have hyl:(d.take len).length=len:=by rw [List.length_take]; omega
             obtain ⟨news,g1,g2,h4,h5⟩:=zS (ts:=ts) (d.take len) o0 (fun i e hi=> by
              rw [List.getElem?_take] at hi
              split at hi
              · exact h3 i e hi
              · cases hi)
             rw [hyl] at g1
             have hcc:=hh.cells him g2
             have hv:=hr a
             rw [hva] at hv
             obtain ⟨n,hn,ev⟩:=vsl hv
             rw [ev]
             obtain ⟨xs,hgg,hcr⟩:=hh.get hbk hn
             have hpr:aX σ ((d.take len).flatMap (iX ts)) news:=yX (by rw [hyl]; exact g1) h4
             have hlen:news.length=len*i.size:=by rw [g1,hsz,Nat.mul_comm]
             obtain ⟨hc',hle2⟩:=j5 hset hc4 hcr hpr hlen
             obtain ⟨frg,hgg0,hfrg⟩:=(show _ from hgg)
             have hst:=jC P n off bk.elem frg news 0 xs.toArray w hgg0 (by simpa using hfrg) (by simp; omega) (fun v hv=> PV (h5 v hv))
             refine ⟨⟨goInt len,w.setRow n (xs.take off++news++xs.drop (off+len*i.size)).toArray,σ,?_,Sub.refl _,⟨rfl,rfl,?_⟩,hh.set hro hbk hn hgg hc' (wm hset) (oU hlen hle2),some n,?_,?_,?_⟩⟩
             · have hmin:Nat.min d.length len=len:=Nat.min_eq_right hle'
               have hcl:(Builtin.firstCells i.size len (.slice (some ⟨b0,o0,none⟩) d.length cap0)).run P w= .ok news.toArray w:=by
                rw [← hsz]
                refine run_firstCells_some w (bP ts) len _ d.length cap0 news (by rw [g1,Nat.mul_comm]) ?_
                intro j v hj
                rw [addr_add,← hcc j v hj]
               simp [Builtin.copy_,run_underlying ht,Go.sizeOf,typeInfo,hi,iB,hmin,hcl]
               rw [hst]
               simp [hlen]
             · simp [jm]; omega
             · refine ⟨rfl,rfl,rfl,by simp,fun j hj hne=> ?_⟩
               exact setRow_other w n j _ (fun e=> hne (by rw [e]))
             · intro m hm; cases hm; exact ⟨k,hro,hn⟩
             · intro j m hj hrj; exact .inl ⟨j,hrj,hj⟩
           · cases hev
         · cases hev
       · cases hev
     · cases hev
   · cases hev
 · cases hev
theorem wZ {c:Call} {e:Operand→V} {ρ:Operand→Value} {h:Hp} {chk:List Bool} {v:V} {us:List (Nat × bQ)} {ty:TypeId} (hev:ni P ro c e (hg h)=some (chk,v,us)) (hck:allT chk)
 (hr: ∀ x,aQ σ (e x) (ρ x)) (hh:bT ro σ h w):tH P ro σ w (dE h us) v ((Builtin.copy_ c.argTypes ty (c.args.map ρ)).run P w):=by
 unfold ni at hev
 split at hev
 · rename_i r hr1
   cases hev
   exact KG hr1 hck hr hh
 · exact Hq hev hck hr hh

theorem Ht {rw:Bool} {c:Call} {e:Operand→V} {ρ:Operand→Value} {h:Hp} {chk:List Bool} {v:V} {us:List (Nat × bQ)} {ty:TypeId} (hev:y5 rw P ro c e (hg h)=some (chk,v,us)) (hck:allT chk)
 (hr: ∀ x,aQ σ (e x) (ρ x)) (hh:bT ro σ h w):tH P ro σ w (dE h us) v ((Builtin.copy_ c.argTypes ty (c.args.map ρ)).run P w):=by
 unfold y5 at hev
 split at hev
 · split at hev
   · rename_i r hr1
     cases hev
     exact Hr hr1 hck hr hh
   · exact wZ hev hck hr hh
 · exact wZ hev hck hr hh

theorem bT.ext' {h h':Hp} (hh:bT ro σ h w) (he: ∀ j,hg h' j=hg h j):bT ro σ h' w:=by
 have hd: ∀ j,dR h j→dR h' j:=fun j ⟨e,hj⟩=> ⟨e,by rw [he]; exact hj⟩
 refine ⟨fun id b hb=> hh.blk id b (by rw [← he]; exact hb),fun i j n h1 h2 h3=> ?_,fun i n hi=> ?_,hh.siz,hh.sep,hh.imm⟩
 · rcases hh.inj i j n h1 h2 h3 with e | e | e
   · exact .inl e
   · exact .inr (.inl (hd i e))
   · exact .inr (.inr (hd j e))
 · obtain ⟨e1,e2⟩:=hh.live i n hi
   exact ⟨e1,by rw [he]; exact e2⟩

theorem bT.amN {h:Hp} (hh:bT ro σ h w) {k n:Nat} {w':World} {cs:Array Value} {t:TypeId} {fr fr':Nat × Nat} (hro:ro≤k) (hn:σ k=some n)
 (hold:w.heap[n]? =some (.cells cs t fr)) (hnew:w'.heap[n]? =some (.cells cs t fr')) (hfr:cs.size≤fr'.1) (hsize:w'.heap.size=w.heap.size) (hoth: ∀ m,m≠n→w'.heap[m]? =w.heap[m]?):bT ro σ h w':=by
 refine ⟨?_,hh.inj,?_,?_,hh.sep,?_⟩
 · intro id b hb
   rcases hh.blk id b hb with ⟨m,xs,h1,h2,h3⟩ | h1
   · refine .inl ⟨m,xs,h1,?_,h3⟩
     by_cases hm:m=n
     · subst hm
       obtain ⟨fr0,g1,_⟩:=h2
       rw [hold] at g1
       cases g1
       exact ⟨fr',hnew, .inr (by simpa using hfr)⟩
     · exact h2.Nj (hoth m hm)
   · exact .inr h1
 · intro i m hi
   obtain ⟨e1,e2⟩:=hh.live i m hi
   exact ⟨by rw [hsize]; exact e1,e2⟩
 · intro i m hi
   obtain ⟨cs',t',fr0,g1,g2⟩:=hh.siz i m hi
   by_cases hm:m=n
   · subst hm
     rw [hold] at g1
     cases g1
     exact ⟨cs,t,fr',hnew,g2⟩
   · exact ⟨cs',t',fr0,by rw [hoth m hm]; exact g1,g2⟩
 · intro m hm
   obtain ⟨e1,e2⟩:=hh.imm m hm
   have hne:m≠n:=fun e=> hh.sep k n hro hn (e ▸ hm)
   exact ⟨by rw [hsize]; exact e1,by rw [hoth m hne]; exact e2⟩

theorem RQ {s d:TypeId} {a v:V} {h:Hp} {x:Value} {chk:List Bool} {us:List (Nat × bQ)} (he:YY P ro s d a (hg h)=some (chk,v,us)) (ha:aQ σ a x) (hh:bT ro σ h w):
 tH P ro σ w (dE h us) v ((convert s d x).run P w):=by
 unfold YY at he
 split at he
 · rename_i es el hs hd
   split at he
   · rename_i k off len cap hsd hel
     split at he
     · rename_i b hb
       split at he
       · rename_i hc
         cases he
         simp only [Bool.and_eq_true] at hc
         have hro:ro≤k:=Nat.le_of_ble_eq_true hc.1
         have hsd:s=d:=of_decide_eq_true hsd
         subst hsd
         obtain ⟨n,hn,rfl⟩:=vsl ha
         obtain ⟨cs,t,fr,hcell,hz⟩:=hh.siz k n hn
         have hput: ∀ j,hg (dE h [(k,b)]) j=hg h j:=by
          intro j
          show hg (h.set k (some b)) j=hg h j
          rw [fO (zf hb)]
          split
          · rename_i e; rw [e,hb]
          · rfl
         have hfr:fr=(0,0)∨cs.size≤fr.1:=by
          rcases hh.blk k b hb with ⟨m,xs,h1,⟨fr0,h2,h3⟩,_⟩ | ⟨_,h1⟩
          · rw [hn] at h1; cases h1
            rw [hcell] at h2; cases h2
            simpa using h3
          · rw [hn] at h1; cases h1
         have hlt:=(hh.live k n hn).1
         have hsh:w.shape? n=some (t,cs.size):=by simp [World.shape?,hcell]
         let fr':Nat × Nat:=if fr.1==fr.2 then (cs.size,cs.size+1) else (min fr.1 cs.size,max fr.2 (cs.size+1))
         have hfr':cs.size≤fr'.1:=by
          show cs.size≤(if fr.1==fr.2 then (cs.size,cs.size+1) else (min fr.1 cs.size,max fr.2 (cs.size+1))).1
          split
          · exact Nat.le_refl _
          · rename_i hne
            rcases hfr with e | e
            · subst e; simp at hne
            · exact Nat.le_min.2 ⟨e,Nat.le_refl _⟩
         have hnew:(w.freeze ⟨n,cs.size,none⟩ 1).heap[n]? =some (.cells cs t fr'):=by
          obtain ⟨lo,hi⟩:=fr
          simp only [World.freeze]
          rw [if_neg (by decide)]
          simp only [Array.getElem?_modify,hcell,if_true,Option.map_some]
          rfl
         have hoth: ∀ m,m≠n→(w.freeze ⟨n,cs.size,none⟩ 1).heap[m]? =w.heap[m]? :=by
          intro m hm
          simp only [World.freeze]
          rw [if_neg (by decide)]
          simp only [Array.getElem?_modify]
          rw [if_neg (fun e=> hm e.symm)]
         have hsize:(w.freeze ⟨n,cs.size,none⟩ 1).heap.size=w.heap.size:=by
          simp only [World.freeze]
          rw [if_neg (by decide)]
          simp
         have hrun:(convert s s (.slice (some ⟨n,off,none⟩) len cap)).run P w= .ok (.slice (some ⟨n,off,none⟩) len cap) (w.freeze ⟨n,cs.size,none⟩ 1):=by
          rw [hs] at hd
          cases hd
          simp [convert,run_underlying hs,run_underlying hel,markStringish,hsh]
         refine ⟨⟨_,_,σ,hrun,Sub.refl _,ha,(hh.amN hro hn hcell hnew hfr' hsize hoth).ext' hput,some n,⟨?_,?_,?_,Nat.le_of_eq hsize.symm,fun j _ hne=> hoth j (fun e=> hne (by rw [e]))⟩,fun m hm=> (by cases hm; exact ⟨k,hro,hn⟩),fun j m hj hrj=> .inl ⟨j,hrj,hj⟩⟩⟩
         all_goals (simp only [World.freeze]; rw [if_neg (by decide)])
       · cases he
     · cases he
   · cases he
 · cases he
end
end Vx
