/-
  Contracts of the program's field of 2^255 - 19: bytes.
-/
import Derived.Test.YtcgmcohkkigphaaGreatL1
import Derived.Test.YtcgmcohkkigphaaGreatU1
set_option maxRecDepth 100000
namespace Go.Proofs.YtcgmcohkkigphaaGreat
open Go Vx Go.RowKit

def CF (b q:Nat):Nat→Int
 | 0=> 0
 | r+1=> (((CF b q r).toNat ||| (ak .u64 (ak .u64 ((digit 8 b (8*q+r):Nat):Int)*((2^(8*r):Nat):Int))).toNat:Nat):Int)

theorem acI (b q:Nat): ∀ r,r≤8→CF b q r=((b / 2^(64*q) % 2^(8*r):Nat):Int)
 | 0,_=> by simp [CF,Nat.mod_one]
 | r+1,h=> by
   have ih:=acI b q r (by omega)
   unfold CF
   rw [ih,Int.toNat_natCast]
   have hd:digit 8 b (8*q+r)=b / 2^(64*q) / 2^(8*r) % 256:=by
    unfold digit
    rw [Nat.div_div_eq_div_mul,← Nat.pow_add]
    congr 3
    omega
   rw [hd]
   generalize b / 2^(64*q)=c
   have e1:ak .u64 ((c / 2^(8*r) % 256:Nat):Int)=((c / 2^(8*r) % 256:Nat):Int):=by
    simp only [ak]
    have:=Nat.mod_lt (c / 2^(8*r)) (show 256 > 0 by decide)
    omega
   have e2:ak .u64 (((c / 2^(8*r) % 256:Nat):Int)*((2^(8*r):Nat):Int))=((2^(8*r)*(c / 2^(8*r) % 256):Nat):Int):=by
    simp only [ak]
    have h1:c / 2^(8*r) % 256<256:=Nat.mod_lt _ (by decide)
    have h2:2^(8*r)*(c / 2^(8*r) % 256)<2^64:=by
     have:(2:Nat)^64=2^(8*r)*2^(64 - 8*r):=by rw [← Nat.pow_add]; congr 1; omega
     rw [this]
     refine Nat.mul_lt_mul_of_pos_left (Nat.lt_of_lt_of_le h1 ?_) (Nat.two_pow_pos _)
     exact (Nat.pow_le_pow_right (by decide) (by omega):(2:Nat)^8≤2^(64 - 8*r))
    rw [← Int.natCast_mul,Nat.mul_comm]
    have:((2:Nat)^64:Nat)=18446744073709551616:=by decide
    omega
   rw [e1,e2,Int.toNat_natCast,FO (Nat.mod_lt _ (Nat.two_pow_pos _))]
   congr 1
   rw [show 8*(r+1)=8*r+8 from by omega,Nat.pow_add,Nat.mod_mul]

theorem jy (b q:Nat):CF b q 8=((digit 64 b q:Nat):Int):=by
 rw [acI b q 8 (Nat.le_refl _)]
 rfl

noncomputable def aim (e0 e1 e2 e3:Int):V:=
 .dX [ufe (aH (e0.toNat+2^64*(e1.toNat+2^64*(e2.toNat+2^64*(e3.toNat+2^64*0))))),
  bY (dS ((YU 5 [.pk .u64 64 4 (aH (e0.toNat+2^64*(e1.toNat+2^64*(e2.toNat+2^64*(e3.toNat+2^64*0)))))] [.int .u64 e0, .int .u64 e1, .int .u64 e2, .int .u64 e3]).getD []))]

theorem adh {b:Nat} (hb:b<115792089237316195423570985008687907853269984665640564039457584007913129639936):aim (CF b 0 8) (CF b 1 8) (CF b 2 8) (CF b 3 8)= .dX [ufe (aH b),bY (uD b)]:=by
 rw [jy,jy,jy,jy]
 obtain ⟨eb,h0,h1,h2,h3⟩:=gM hb
 have en:digit 64 b 0+2^64*(digit 64 b 1+2^64*(digit 64 b 2+2^64*(digit 64 b 3+2^64*0)))=b:=by
  simp only [Nat.reducePow]; omega
 unfold aim
 simp only [Int.toNat_natCast]
 rw [en]
 have hev:(YU 5 [.pk .u64 64 4 (aH b)] [.int .u64 ((digit 64 b 0:Nat):Int), .int .u64 ((digit 64 b 1:Nat):Int), .int .u64 ((digit 64 b 2:Nat):Int), .int .u64 ((digit 64 b 3:Nat):Int)]).getD []=
  [(decide (((digit 64 b 0:Nat):Int)<((2^64:Nat):Int)) && (decide (((digit 64 b 1:Nat):Int)<((2^64:Nat):Int)) && (decide (((digit 64 b 2:Nat):Int)<((2^64:Nat):Int)) && (decide (((digit 64 b 3:Nat):Int)<((2^64:Nat):Int)) && true)))) && decide (aH b=digit 64 b 0+2^64*(digit 64 b 1+2^64*(digit 64 b 2+2^64*(digit 64 b 3+2^64*0))))]:=by rfl
 rw [hev,en]
 have p64:((2:Nat)^64:Nat)=18446744073709551616:=by decide
 rw [p64,decide_eq_true (show ((digit 64 b 0:Nat):Int)<((18446744073709551616:Nat):Int) by omega),decide_eq_true (show ((digit 64 b 1:Nat):Int)<((18446744073709551616:Nat):Int) by omega),decide_eq_true (show ((digit 64 b 2:Nat):Int)<((18446744073709551616:Nat):Int) by omega),decide_eq_true (show ((digit 64 b 3:Nat):Int)<((18446744073709551616:Nat):Int) by omega)]
 simp only [Bool.true_and,dS,Bool.and_true]
 have:decide (aH b=b)=uD b:=by
  rw [ed,Dc]
  congr 1
  refine propext ⟨fun h=> ?_,Nat.mod_eq_of_lt⟩
  rw [← h]
  exact Nat.mod_lt _ (by decide)
 rw [this]

def cO (bits:Nat):List Nat→Nat
 | []=> 0
 | d::l=> d+2^bits*cO bits l

theorem kR (bits n:Nat): ∀ cnt k,cO bits ((List.range' k cnt).map (digit bits n))=n / 2^(bits*k) % 2^(bits*cnt)
 | 0,k=> by simp [cO,Nat.mod_one]
 | cnt+1,k=> by
   rw [List.range'_succ,List.map_cons,cO,kR bits n cnt (k+1)]
   unfold digit
   rw [show bits*(k+1)=bits*k+bits from by rw [Nat.mul_succ],Nat.pow_add,← Nat.div_div_eq_div_mul,show bits*(cnt+1)=bits+bits*cnt from by rw [Nat.mul_succ,Nat.add_comm],Nat.pow_add,Nat.mod_mul]

theorem Vb {f:Nat→Int} {n:Nat} (hn:n<115792089237316195423570985008687907853269984665640564039457584007913129639936) (h: ∀ i,i<32→(f i).toNat=digit 8 n i):
 aL (.ag (.ps ((List.range' 0 32).map fun i=> .int .u8 (f i)))) (cB n):=by
 refine aL.dec (t:=iq) (ds:= [.n n]) ?_ rfl
 have e:YQ iq (.ag (.ps ((List.range' 0 32).map fun i=> .int .u8 (f i))))=some [.n (cO 8 ((List.range' 0 32).map fun i=> (f i).toNat))]:=rfl
 rw [e]
 have e2:((List.range' 0 32).map fun i=> (f i).toNat)=(List.range' 0 32).map (digit 8 n):=List.map_congr_left fun i hi=> h i (by
  rw [List.mem_range'] at hi
  obtain ⟨j,hj,rfl⟩:=hi
  omega)
 rw [e2,kR,Nat.mul_zero,Nat.pow_zero,Nat.div_one,show (2:Nat)^(8*32)=115792089237316195423570985008687907853269984665640564039457584007913129639936 from by decide+kernel,Nat.mod_eq_of_lt hn]

theorem Dp {n:Nat} (h:Ti (cB n)):n<115792089237316195423570985008687907853269984665640564039457584007913129639936:=by
 have:n<2^(8*32):=h.1
 exact this

theorem ai6 (a:Nat):aH a<pP:=by rw [ed]; exact Nat.mod_lt _ (by decide)
theorem amF:pP<115792089237316195423570985008687907853269984665640564039457584007913129639936:=by decide

theorem UQ (n i:Nat):(ak .u8 (((digit 64 n (i / 8):Nat):Int) / ((2^(8*(i % 8)):Nat):Int))).toNat=digit 8 n i:=by
 simp only [ak]
 rw [← Int.natCast_ediv]
 have:((digit 64 n (i / 8) / 2^(8*(i % 8)):Nat):Int) % 256=((digit 64 n (i / 8) / 2^(8*(i % 8)) % 256:Nat):Int):=by omega
 rw [this,Int.toNat_natCast]
 unfold digit
 have hlt:i % 8<8:=Nat.mod_lt _ (by decide)
 have e2:(2:Nat)^64=2^(8*(i % 8))*2^(64 - 8*(i % 8)):=by rw [← Nat.pow_add]; congr 1; omega
 rw [e2,Nat.mod_mul_right_div_self,Nat.div_div_eq_div_mul,← Nat.pow_add]
 have e3:(2:Nat)^(64 - 8*(i % 8))=256*2^(56 - 8*(i % 8)):=by
  rw [show (256:Nat)=2^8 from rfl,← Nat.pow_add]; congr 1; omega
 rw [e3,Nat.mod_mul_right_mod]
 congr 3
 omega

noncomputable def PI:List D→Option (List Bool × V)
 | [.n a]=> some ([],cB (aH a))
 | _=> none
noncomputable def WX:aj:=spec [yx] PI
noncomputable abbrev JQ:List (FuncId × aj):= [(197,sD)]
theorem QA:aD Tryz.prog (aK JQ):=(.cons mr .nil)
theorem Zx:bg Tryz.prog 145 WX:=by
 refine az (cx:=dx JQ) (c:=af Tryz.f145) Tryz.func145 (by kernel_rfl) (by kernel_rfl) rfl ?_
 intro ds chk v vs hF ht he hr base
 unfold PI at hF
 split at hF
 · rename_i a
   cases hF
   have hvs:vs= [kC a]:=by simp only [bq,bn,bF,bD,Option.some.injEq] at he; exact he.symm
   subst hvs
   exact aB (bS QA) (n:=400) (bs0:= []) (v0:= .ag (.ps ((List.range' 0 32).map fun i=> .int .u8 (ak .u8 (((digit 64 (aH a) (i / 8):Nat):Int) / ((2^(8*(i % 8)):Nat):Int)))))) (by kernel_rfl) (Vb (f:=fun i=> ak .u8 (((digit 64 (aH a) (i / 8):Nat):Int) / ((2^(8*(i % 8)):Nat):Int))) (Nat.lt_trans (ai6 a) amF) fun i _=> UQ _ i) trivial
 · cases hF

noncomputable def Xa:List D→Option (List Bool × V)
 | [.n b]=> some ([], .dX [ufe (aH b),bY (uD b)])
 | _=> none
noncomputable def adV:aj:=spec [iq] Xa
noncomputable abbrev Qh:List (FuncId × aj):= [(197,sD)]
theorem TU:aD Tryz.prog (aK Qh):=(.cons mr .nil)
theorem acr:bg Tryz.prog 153 adV:=by
 refine az (cx:=dx Qh) (c:=af Tryz.f153) Tryz.func153 (by kernel_rfl) (by kernel_rfl) rfl ?_
 intro ds chk v vs hF ht he hr base
 unfold Xa at hF
 split at hF
 · rename_i b
   cases hF
   have hvs:vs= [cB b]:=by simp only [bq,bn,bF,bD,Option.some.injEq] at he; exact he.symm
   subst hvs
   obtain ⟨h1,_⟩:=hr
   rw [← adh (Dp h1)]
   exact aB (bS TU) (n:=400) (bs0:= []) (by kernel_rfl) (aL.refl _) trivial
 · cases hF
end Go.Proofs.YtcgmcohkkigphaaGreat

/-
  Contracts of the program's curve.
-/
namespace Go.Proofs.YtcgmcohkkigphaaGreat
open Go Vx Go.RowKit

abbrev tpt:Ty:= .ag [.pk .u64 64 4, .pk .u64 64 4, .pk .u64 64 4, .pk .u64 64 4]
abbrev vpt (x y z t:Nat):V:= .u (.ag (.ps [.pk .u64 64 4 x, .pk .u64 64 4 y, .pk .u64 64 4 z, .pk .u64 64 4 t]))
abbrev upP (p:P4):U:= .ag (.ps [.pk .u64 64 4 p.x, .pk .u64 64 4 p.y, .pk .u64 64 4 p.z, .pk .u64 64 4 p.t])
abbrev vpP (p:P4):V:= .u (upP p)

abbrev z0:L:= .int .u64 0

noncomputable def alN:List D→Option (List Bool × V)
 | []=> some ([],kC dP)
 | _=> none
noncomputable def sED:aj:=spec [] alN
noncomputable abbrev aiI:List (FuncId × aj):= [(139,xu),(144,Aa),(149,adP),(148,Ic)]
theorem ag8:aD Tryz.prog (aK aiI):=(.cons nA (.cons o7 (.cons V3 (.cons si .nil))))
theorem OA:bg Tryz.prog 154 sED:=by
 refine az (cx:=dx aiI) (c:=af Tryz.f154) Tryz.func154 (by kernel_rfl) (by kernel_rfl) rfl ?_
 intro ds chk v vs hF ht he hr base
 unfold alN at hF
 split at hF
 · cases hF
   have hvs:vs= []:=by simp only [bq,Option.some.injEq] at he; exact he.symm
   subst hvs
   rw [abe]
   exact aB (bS ag8) (n:=200) (bs0:= []) (by kernel_rfl) (aL.refl _) trivial
 · cases hF

noncomputable def aiy:List D→Option (List Bool × V)
 | []=> some ([],vpP Vt)
 | _=> none
noncomputable def akl:aj:=spec [] aiy
noncomputable abbrev aeL:List (FuncId × aj):= [(148,Ic)]
theorem aeU:aD Tryz.prog (aK aeL):=(.cons si .nil)
theorem acm:bg Tryz.prog 104 akl:=by
 refine az (cx:=dx aeL) (c:=af Tryz.f104) Tryz.func104 (by kernel_rfl) (by kernel_rfl) rfl ?_
 intro ds chk v vs hF ht he hr base
 unfold aiy at hF
 split at hF
 · cases hF
   have hvs:vs= []:=by simp only [bq,Option.some.injEq] at he; exact he.symm
   subst hvs
   exact aB (bS aeU) (n:=200) (bs0:= []) (v0:= .u (.ag (.ps [z0,z0,z0,z0, .pk .u64 64 4 1, .pk .u64 64 4 1,z0,z0,z0,z0]))) (by kernel_rfl) (aL.dec (t:=tpt) (ds:= [.n 0, .n 1, .n 1, .n 0]) rfl rfl) trivial
 · cases hF

noncomputable def adG:List D→Option (List Bool × V)
 | [.n x, .n y, .n z, .n t, .n x1, .n y1, .n z1, .n t1, .n tw]=> some ([],vpP (Ae ⟨x,y,z,t⟩ ⟨x1,y1,z1,t1⟩ tw))
 | _=> none
noncomputable def adF:aj:=spec [tpt,tpt,yx] adG
noncomputable abbrev XJ:List (FuncId × aj):= [(139,xu),(140,z8),(141,JF)]
theorem aac:aD Tryz.prog (aK XJ):=(.cons nA (.cons o6 (.cons zI .nil)))
theorem VY:bg Tryz.prog 156 adF:=by
 refine az (cx:=dx XJ) (c:=af Tryz.f156) Tryz.func156 (by kernel_rfl) (by kernel_rfl) rfl ?_
 intro ds chk v vs hF ht he hr base
 unfold adG at hF
 split at hF
 · rename_i x y z t x1 y1 z1 t1 tw
   cases hF
   have hvs:vs= [vpt x y z t,vpt x1 y1 z1 t1,kC tw]:=by simp only [bq,bn,bF,bD,Option.some.injEq] at he; exact he.symm
   subst hvs
   rw [Mi]
   exact aB (bS aac) (n:=200) (bs0:= []) (by kernel_rfl) (aL.refl _) trivial
 · cases hF

noncomputable def adC:List D→Option (List Bool × V)
 | [.n x, .n y, .n z, .n t, .n x1, .n y1, .n z1, .n t1]=> some ([],vpP (yG ⟨x,y,z,t⟩ ⟨x1,y1,z1,t1⟩))
 | _=> none
noncomputable def aiw:aj:=spec [tpt,tpt] adC
noncomputable abbrev XI:List (FuncId × aj):= [(156,adF),(154,sED),(140,z8)]
theorem aab:aD Tryz.prog (aK XI):=(.cons VY (.cons OA (.cons o6 .nil)))
theorem agq:bg Tryz.prog 107 aiw:=by
 refine az (cx:=dx XI) (c:=af Tryz.f107) Tryz.func107 (by kernel_rfl) (by kernel_rfl) rfl ?_
 intro ds chk v vs hF ht he hr base
 unfold adC at hF
 split at hF
 · rename_i x y z t x1 y1 z1 t1
   cases hF
   have hvs:vs= [vpt x y z t,vpt x1 y1 z1 t1]:=by simp only [bq,bn,bF,bD,Option.some.injEq] at he; exact he.symm
   subst hvs
   rw [yH]
   exact aB (bS aab) (n:=200) (bs0:= []) (by kernel_rfl) (aL.refl _) trivial
 · cases hF

def upt (x y z t:Nat):U:= .ag (.ps [.pk .u64 64 4 x, .pk .u64 64 4 y, .pk .u64 64 4 z, .pk .u64 64 4 t])
def Ip:U:= .ag (.ps [z0,z0,z0,z0,z0,z0,z0,z0,z0,z0,z0,z0,z0,z0,z0,z0])
theorem GY:gN Ip (upt 0 0 0 0):=gN.of (aL.dec (t:=tpt) (ds:= [.n 0, .n 0, .n 0, .n 0]) rfl rfl)
def ae3 (b1 odd b2:Bool) (r n y t1 t2:Nat):Out:=
 bif !b1 then aV (.dX [Ip,bY false])
 else bif odd then (bif b2 then aV (.dX [Ip,bY false]) else (bif odd then aV (.dX [upt n y 1 t2,bY true]) else aV (.dX [upt r y 1 t1,bY true])))
 else (bif odd then aV (.dX [upt n y 1 t2,bY true]) else aV (.dX [upt r y 1 t1,bY true]))
def Ya (b1 odd b2:Bool) (r n y t1 t2:Nat):V:=
 bif !b1 || (odd && b2) then .dX [Ip,bY false] else .dX [upt (bif odd then n else r) y 1 (bif odd then t2 else t1),bY true]
theorem aay (b1 odd b2:Bool) (r n y t1 t2:Nat):ae3 b1 odd b2 r n y t1 t2=aV (Ya b1 odd b2 r n y t1 t2):=by
 cases b1<;> cases odd<;> cases b2<;> rfl
theorem Un (y:Nat) (odd:Bool):aL (Ya (kT (bX (ah y y) 1) (bH (ah dP (ah y y)) 1)) odd (dS [decide (dU (bX (ah y y) 1) (bH (ah dP (ah y y)) 1)=0)])
 (dU (bX (ah y y) 1) (bH (ah dP (ah y y)) 1)) (fJ (dU (bX (ah y y) 1) (bH (ah dP (ah y y)) 1))) (aH y)
 (ah (dU (bX (ah y y) 1) (bH (ah dP (ah y y)) 1)) y) (ah (fJ (dU (bX (ah y y) 1) (bH (ah dP (ah y y)) 1))) y)) (.dX [upP (atP y odd),bY (atB y odd)]):=by
 rw [Kh]
 unfold at0
 rw [Kg]
 generalize dU (bX (ah y y) 1) (bH (ah dP (ah y y)) 1)=r
 generalize kT (bX (ah y y) 1) (bH (ah dP (ah y y)) 1)=b1
 simp only [dS]
 generalize decide (r=0)=b2
 cases b1
 · exact aL.tC GY (gN.refl _)
 · cases odd
   · exact aL.refl _
   · cases b2
     · exact aL.refl _
     · exact aL.tC GY (gN.refl _)

noncomputable def aix:List D→Option (List Bool × V)
 | [.n y, .b odd]=> some ([], .dX [upP (atP y odd),bY (atB y odd)])
 | _=> none
noncomputable def alM:aj:=spec [yx,al2] aix
noncomputable abbrev aeK:List (FuncId × aj):= [(139,xu),(140,z8),(141,JF),(142,Gs),(144,Aa),(197,sD),(148,Ic),(154,sED)]
theorem aeT:aD Tryz.prog (aK aeK):=(.cons nA (.cons o6 (.cons zI (.cons zH (.cons o7 (.cons mr (.cons si (.cons OA .nil))))))))
theorem ajO:bg Tryz.prog 147 alM:=by
 refine az (cx:=dx aeK) (c:=af Tryz.f147) Tryz.func147 (by kernel_rfl) (by kernel_rfl) rfl ?_
 intro ds chk v vs hF ht he hr base
 unfold aix at hF
 split at hF
 · rename_i y odd
   cases hF
   have hvs:vs= [kC y,bI odd]:=by simp only [bq,bn,bF,bD,Option.some.injEq] at he; exact he.symm
   subst hvs
   exact aB (bS aeT) (n:=200) (bs0:= []) (h:=Eq.trans (b:=(fun r=> ae3 (kT (bX (ah y y) 1) (bH (ah dP (ah y y)) 1)) odd (dS [decide (r=0)]) r (fJ r) (aH y) (ah r y) (ah (fJ r) y)) (dU (bX (ah y y) 1) (bH (ah dP (ah y y)) 1))) (by kernel_rfl) (aay _ _ _ _ _ _ _ _)) (Un y odd) trivial
 · cases hF

noncomputable def WG:List D→Option (List Bool × V)
 | []=> some ([],vpP (qh ()))
 | _=> none
noncomputable def adE:aj:=spec [] WG
noncomputable abbrev Qa:List (FuncId × aj):= [(147,alM),(139,xu),(149,adP),(148,Ic)]
theorem TI:aD Tryz.prog (aK Qa):=(.cons ajO (.cons nA (.cons V3 (.cons si .nil))))
theorem ack:bg Tryz.prog 103 adE:=by
 refine az (cx:=dx Qa) (c:=af Tryz.f103) Tryz.func103 (by kernel_rfl) (by kernel_rfl) rfl ?_
 intro ds chk v vs hF ht he hr base
 unfold WG at hF
 split at hF
 · cases hF
   have hvs:vs= []:=by simp only [bq,Option.some.injEq] at he; exact he.symm
   subst hvs
   rw [DY]
   exact aB (bS TI) (n:=200) (bs0:= []) (by kernel_rfl) (aL.refl _) trivial
 · cases hF
end Go.Proofs.YtcgmcohkkigphaaGreat

/-
  Contracts of the program's group: bytes and points.
-/
namespace Go.Proofs.YtcgmcohkkigphaaGreat
open Go Vx Go.RowKit

abbrev akB:Ty:= .ag [.pk .u8 8 64]
abbrev afe (n:Nat):V:= .pk .u8 8 64 n
abbrev am1 (a b c d e f g:Nat):V:= .u (.ag (.ps [.pk .u64 64 4 a, .pk .u64 64 4 b, .pk .u64 64 4 c, .pk .u64 64 4 d, .pk .u64 64 4 e, .pk .u64 64 4 f, .pk .u64 64 4 g]))

def Yb (o1 o2 o3:Bool) (a b c d:Nat):Out:=
 bif o1 then (bif o2 then aV (cB a) else aV (cB b)) else (bif o3 then aV (cB c) else aV (cB d))

noncomputable def BI (x y z t r:Nat):Out:=
 (fun a b=> (fun c=> Yb (nz (ah t c)) (nz (ah (ah y iP) c)) (nz (ah x c))
  (aH (kZ (ah (ah a xh) (bX z (fJ (ah x iP)))))) (aH (kZ (ah (ah a xh) (bX z (ah x iP)))))
  (aH (kZ (ah b (bX z (fJ y))))) (aH (kZ (ah b (bX z y))))) (ah (ah a b) t)) (ah r (ah (bH z y) (bX z y))) (ah r (ah x y))

theorem Uq (x y z t:Nat):BI x y z t (dU 1 (ah (ah (bH z y) (bX z y)) (ah (ah x y) (ah x y))))=aV (cB (iV ⟨x,y,z,t⟩)):=by
 rw [FZ]
 unfold Pf BI
 dsimp only
 generalize dU 1 (ah (ah (bH z y) (bX z y)) (ah (ah x y) (ah x y)))=r
 generalize ah (ah (ah r (ah (bH z y) (bX z y))) (ah r (ah x y))) t=c
 cases nz (ah t c)<;> simp only [Yb,cond_true,cond_false]
 · cases nz (ah x c)<;> rfl
 · cases nz (ah (ah y iP) c)<;> rfl

def MF (b1 b2 b3 b4 b5:Bool) (x y t:Nat):Out:=
 bif !b1 then aV (.dX [Ip,bY false]) else bif b2 then aV (.dX [Ip,bY false]) else bif !b3 then aV (.dX [Ip,bY false])
 else bif b4 then aV (.dX [Ip,bY false]) else bif b5 then aV (.dX [Ip,bY false]) else aV (.dX [upt x y 1 t,bY true])
def Ar (b1 b2 b3 b4 b5:Bool) (x y t:Nat):V:=
 bif b1 && !b2 && (b3 && !b4 && !b5) then .dX [upt x y 1 t,bY true] else .dX [Ip,bY false]
theorem Uo (b1 b2 b3 b4 b5:Bool) (x y t:Nat):MF b1 b2 b3 b4 b5 x y t=aV (Ar b1 b2 b3 b4 b5 x y t):=by
 cases b1<;> cases b2<;> cases b3<;> cases b4<;> cases b5<;> rfl

noncomputable def IG {α:Type} (n:Nat) (f:Bool→Bool→Bool→Bool→Bool→Nat→Nat→Nat→α):α:=
 (fun s=> (fun u1 u2=> (fun v=> (fun r=> (fun x y=> f (uD n) (nz s) (kT 1 (ah v (ah u2 u2))) (nz (ah x y)) (lq y 0) x y (ah x y))
  (kZ (ah (bH s s) (ah r u2))) (ah u1 (ah (ah r (ah r u2)) v))) (dU 1 (ah v (ah u2 u2)))) (bX (fJ (ah dP (ah u1 u1))) (ah u2 u2))) (bX 1 (ah s s)) (bH 1 (ah s s))) (aH n)

theorem abm (n:Nat):IG n MF=aV (IG n Ar):=by
 unfold IG
 exact Uo _ _ _ _ _ _ _ _

theorem QM (n:Nat):aL (IG n Ar) (.dX [upP (jD n),bY (aJ n)]):=by
 rw [zU]
 unfold zT
 dsimp only
 rw [vV]
 unfold Bp IG Ar
 dsimp only
 generalize dU 1 (ah (bX (fJ (ah dP (ah (bX 1 (ah (aH n) (aH n))) (bX 1 (ah (aH n) (aH n)))))) (ah (bH 1 (ah (aH n) (aH n))) (bH 1 (ah (aH n) (aH n))))) (ah (bH 1 (ah (aH n) (aH n))) (bH 1 (ah (aH n) (aH n)))))=r
 generalize (uD n && !nz (aH n) && _:Bool)=b
 cases b
 · exact aL.tC GY (gN.refl _)
 · exact aL.refl _

noncomputable def Xn:List D→Option (List Bool × V)
 | []=> some ([],am1 1 iP dP xh uq uo xg)
 | _=> none
noncomputable def aej:aj:=spec [] Xn
noncomputable abbrev Qp:List (FuncId × aj):= [(139,xu),(140,z8),(141,JF),(142,Gs),(144,Aa),(148,Ic),(191,sLI),(154,sED)]
theorem Uc:aD Tryz.prog (aK Qp):=(.cons nA (.cons o6 (.cons zI (.cons zH (.cons o7 (.cons si (.cons ah0 (.cons OA .nil))))))))
theorem acv:bg Tryz.prog 138 aej:=by
 refine az (cx:=dx Qp) (c:=af Tryz.f138) Tryz.func138 (by kernel_rfl) (by kernel_rfl) rfl ?_
 intro ds chk v vs hF ht he hr base
 unfold Xn at hF
 split at hF
 · cases hF
   have hvs:vs= []:=by simp only [bq,Option.some.injEq] at he; exact he.symm
   subst hvs
   rw [EL,NH,NF,NG,E9]
   exact aB (bS Uc) (n:=200) (bs0:= []) (by kernel_rfl) (aL.refl _) trivial
 · cases hF

noncomputable def aei:List D→Option (List Bool × V)
 | [.n x, .n y, .n z, .n t]=> some ([],cB (iV ⟨x,y,z,t⟩))
 | _=> none
noncomputable def aeh:aj:=spec [tpt] aei
noncomputable abbrev X4:List (FuncId × aj):= [(139,xu),(140,z8),(141,JF),(142,Gs),(144,Aa),(143,WZ),(146,WW),(145,WX),(138,aej)]
theorem aat:aD Tryz.prog (aK X4):=(.cons nA (.cons o6 (.cons zI (.cons zH (.cons o7 (.cons LC (.cons LB (.cons Zx (.cons acv .nil)))))))))
theorem V9:bg Tryz.prog 102 aeh:=by
 refine az (cx:=dx X4) (c:=af Tryz.f102) Tryz.func102 (by kernel_rfl) (by kernel_rfl) rfl ?_
 intro ds chk v vs hF ht he hr base
 unfold aei at hF
 split at hF
 · rename_i x y z t
   cases hF
   have hvs:vs= [vpt x y z t]:=by simp only [bq,bn,bF,bD,Option.some.injEq] at he; exact he.symm
   subst hvs
   exact aB (bS aat) (n:=200) (bs0:= []) (h:=Eq.trans (b:=BI x y z t (dU 1 (ah (ah (bH z y) (bX z y)) (ah (ah x y) (ah x y))))) (by kernel_rfl) (Uq x y z t)) (aL.refl _) trivial
 · cases hF

noncomputable def aeg:List D→Option (List Bool × V)
 | [.n n]=> some ([], .dX [upP (jD n),bY (aJ n)])
 | _=> none
noncomputable def aef:aj:=spec [iq] aeg
noncomputable abbrev X3:List (FuncId × aj):= [(139,xu),(140,z8),(141,JF),(142,Gs),(144,Aa),(143,WZ),(146,WW),(153,adV),(148,Ic),(155,aer),(154,sED)]
theorem aas:aD Tryz.prog (aK X3):=(.cons nA (.cons o6 (.cons zI (.cons zH (.cons o7 (.cons LC (.cons LB (.cons acr (.cons si (.cons Wd (.cons OA .nil)))))))))))
theorem V8:bg Tryz.prog 106 aef:=by
 refine az (cx:=dx X3) (c:=af Tryz.f106) Tryz.func106 (by kernel_rfl) (by kernel_rfl) rfl ?_
 intro ds chk v vs hF ht he hr base
 unfold aeg at hF
 split at hF
 · rename_i n
   cases hF
   have hvs:vs= [cB n]:=by simp only [bq,bn,bF,bD,Option.some.injEq] at he; exact he.symm
   subst hvs
   exact aB (bS aas) (n:=200) (bs0:= []) (h:=Eq.trans (b:=IG n MF) (by kernel_rfl) (abm n)) (QM n) trivial
 · cases hF
end Go.Proofs.YtcgmcohkkigphaaGreat

/-
  Contracts of the program's group: maps.
-/
namespace Go.Proofs.YtcgmcohkkigphaaGreat
open Go Vx Go.RowKit

theorem agY {n:Nat} (h:Ti (afe n)):n<2^(8*64):=h.1
end Go.Proofs.YtcgmcohkkigphaaGreat

/-
  Contracts of the laws of layer 4: what all ask first.
-/
namespace Go.Proofs.YtcgmcohkkigphaaGreat
open Go Vx Go.RowKit
end Go.Proofs.YtcgmcohkkigphaaGreat

/-
  Digits that lie one by one are the digits of their number.
-/
namespace Go.Proofs.YtcgmcohkkigphaaGreat
open Go Vx Go.RowKit

abbrev Uk:Ty:= .ag [.pk .u64 32 8]
abbrev tF (n:Nat):V:= .pk .u64 32 8 n
abbrev MO (n:Nat):U:= .ag (.ps [.pk .u64 32 8 n])
abbrev aiM:Ty:= .ag [.int .u64, .int .u64, .int .u64, .int .u64, .int .u64, .int .u64, .int .u64, .int .u64]
abbrev aiS (a b c d e f g h:Int):V:= .u (.ag (.ps [.int .u64 a, .int .u64 b, .int .u64 c, .int .u64 d, .int .u64 e, .int .u64 f, .int .u64 g, .int .u64 h]))

theorem Jl {σ:Sg} {k:IntKind} {f:Nat→Int}: ∀ {l:List Nat} {xs:List Value},aX σ (l.map fun i=> .int k (f i)) xs→xs=l.map fun i=> Value.int k (f i)
 | [],xs,h=> h
 | i::l,xs,h=> by
   obtain ⟨ys,zs,e,h1,h2⟩:=h
   rw [e,h1.1,Jl h2]
   rfl

theorem ajk {k:IntKind} {b cnt n:Nat} {f:Nat→Int} (hn:n<2^(b*cnt)) (hu:k.signed=false) (hb:b≤k.bits) (h: ∀ i,i<cnt→f i=(digit b n i:Nat)):
 aL (.ag (.ps ((List.range cnt).map fun i=> .int k (f i)))) (.pk k b cnt n):=by
 rintro σ x ⟨xs,e,hp⟩
 refine ⟨xs,e,xs,[],by simp,⟨?_,hn,hu,hb⟩,rfl⟩
 rw [Jl hp]
 refine List.map_congr_left fun i hi=> ?_
 rw [h i (List.mem_range.1 hi)]

end Go.Proofs.YtcgmcohkkigphaaGreat
