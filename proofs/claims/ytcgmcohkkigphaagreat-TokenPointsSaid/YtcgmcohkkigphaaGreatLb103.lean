/-
  The parameters of a mint: which may be.
-/
import Derived.Test.YtcgmcohkkigphaaGreatL9
import Derived.Test.YtcgmcohkkigphaaGreatL12
set_option maxRecDepth 100000
namespace Go.Proofs.YtcgmcohkkigphaaGreat
open Go Vx Go.RowKit

noncomputable abbrev aI (a h:Nat):Nat:=fH [[.n a, .n h]]
noncomputable abbrev nk (a b h:Nat):Nat:=fH [[.n a, .n bN],[.n b, .n h]]

abbrev Uj:Ty:= .ag [.pk .u8 8 32, .pk .u8 8 32, .pk .u8 8 32, .pk .u8 8 32, .pk .u8 8 32, .pk .u8 8 32, .pk .u8 8 32, .pk .u8 8 32, .pk .u8 8 32, .pk .u8 8 32, .pk .u8 8 32]
abbrev G5 (a b c d e f g h i j k:Nat):V:= .ag (.ps [.pk .u8 8 32 a, .pk .u8 8 32 b, .pk .u8 8 32 c, .pk .u8 8 32 d, .pk .u8 8 32 e, .pk .u8 8 32 f, .pk .u8 8 32 g, .pk .u8 8 32 h, .pk .u8 8 32 i, .pk .u8 8 32 j, .pk .u8 8 32 k])
abbrev akG:Ty:= .ag [.pk .u8 8 32, .pk .u8 8 32, .pk .u8 8 32, .pk .u8 8 32, .pk .u8 8 32, .pk .u8 8 32, .pk .u8 8 32, .pk .u8 8 32, .pk .u8 8 32]
abbrev afg (a b c d e f g h i:Nat):V:= .ag (.ps [.pk .u8 8 32 a, .pk .u8 8 32 b, .pk .u8 8 32 c, .pk .u8 8 32 d, .pk .u8 8 32 e, .pk .u8 8 32 f, .pk .u8 8 32 g, .pk .u8 8 32 h, .pk .u8 8 32 i])
abbrev ttm:Ty:= .ag [.pk .u8 8 32, .pk .u8 8 32]
abbrev vtm (a b:Nat):V:= .ag (.ps [.pk .u8 8 32 a, .pk .u8 8 32 b])
abbrev zB (a:Nat):Bool:=dS [true && decide (a=0)]
theorem oz {a:Nat}:zB a=true↔a=0:=by
 show (true && decide (a=0))=true↔_
 rw [Bool.true_and,decide_eq_true_iff]
def Fp:List Bool→Bool→Bool
 | [],b=> b
 | c::l,b=> bif c then false else Fp l b
def ae5:List Bool→Bool→Out
 | [],b=> aV (bI b)
 | c::l,b=> bif c then aV (bI false) else ae5 l b
theorem QO: ∀ (l:List Bool) (b:Bool),ae5 l b=aV (bI (Fp l b))
 | [],_=> rfl
 | true::_,_=> rfl
 | false::l,b=> QO l b
def Fj (l:List Bool) (p q:Bool):Bool:=Fp l (bif p then q else false)
def ae4:List Bool→Bool→Bool→Out
 | [],p,q=> bif p then aV (bI q) else aV (bI false)
 | c::l,p,q=> bif c then aV (bI false) else ae4 l p q
theorem QN: ∀ (l:List Bool) (p q:Bool),ae4 l p q=aV (bI (Fj l p q))
 | [],true,_=> rfl
 | [],false,_=> rfl
 | true::_,_,_=> rfl
 | false::l,p,q=> QN l p q
theorem VR: ∀ l:List Bool,Fp l false=false
 | []=> rfl
 | true::_=> rfl
 | false::l=> VR l
theorem VS: ∀ {l:List Bool} {b:Bool},Fp l b=true→(∀ c∈l,c=false)∧b=true
 | [],_,h=> ⟨fun _ hc=> by simp at hc,h⟩
 | true::_,_,h=> by cases h
 | false::l,b,h=> by
   obtain ⟨h1,h2⟩:=VS (l:=l) (b:=b) h
   refine ⟨fun c hc=> ?_,h2⟩
   rcases List.mem_cons.1 hc with rfl | hc
   · rfl
   · exact h1 c hc
theorem Fq: ∀ {l:List Bool} {b:Bool},(∀ c∈l,c=false)→b=true→Fp l b=true
 | [],_,_,h=> h
 | c::l,b,h,hb=> by
   rw [Fp,h c (List.mem_cons_self ..),cond_false]
   exact Fq (fun x hx=> h x (List.mem_cons_of_mem _ hx)) hb
def ae6 (p q:Bool) (l:List Bool):Out:=bif p then (bif q then ae5 l true else aV (bI false)) else aV (bI false)
theorem ae7 (p q:Bool) (l:List Bool):ae6 p q l=aV (bI (Fj l p q)):=by
 unfold ae6 Fj
 rw [QO]
 have h:=VR l
 cases p<;> cases q
 · exact congrArg (fun b=> aV (bI b)) h.symm
 · exact congrArg (fun b=> aV (bI b)) h.symm
 · exact congrArg (fun b=> aV (bI b)) h.symm
 · rfl

noncomputable def jV:Nat→Nat→Nat→Nat→Nat→Nat→Nat→Nat→Nat→Nat→Nat→Bool:=aA fun a b c d e f g h i j k=> Fj [!bU a, !bU b, !bU c, !bU d, !bU e, !bU f, !bU g, !bU h, !bU i, !bU j, !bU k] (!zB a) (!zB k)
theorem Le (a b c d e f g h i j k:Nat):jV a b c d e f g h i j k=Fj [!bU a, !bU b, !bU c, !bU d, !bU e, !bU f, !bU g, !bU h, !bU i, !bU j, !bU k] (!zB a) (!zB k):=by unfold jV; rw [aO]

noncomputable def Bb:Nat→Nat→Nat→Nat→Nat→Nat→Nat→Nat→Nat→Bool:=aA fun a b c d e f g h i=> Fj [!aJ a, !aJ b, !aJ c, !aJ d, !aJ e, !aJ f, !aJ g, !aJ h, !aJ i] (!zB a) (!zB i)
theorem VI (a b c d e f g h i:Nat):Bb a b c d e f g h i=Fj [!aJ a, !aJ b, !aJ c, !aJ d, !aJ e, !aJ f, !aJ g, !aJ h, !aJ i] (!zB a) (!zB i):=by unfold Bb; rw [aO]

noncomputable def WJ:List D→Option (List Bool × V)
 | [.n a, .n b, .n c, .n d, .n e, .n f, .n g, .n h, .n i, .n j, .n k]=> some ([],bI (jV a b c d e f g h i j k))
 | _=> none
noncomputable def L6:aj:=spec [Uj] WJ
noncomputable abbrev Qb:List (FuncId × aj):= [(76,gH)]
theorem TJ:aD Tryz.prog (aK Qb):=(.cons fB .nil)
theorem FH:bg Tryz.prog 61 L6:=by
 refine az (cx:=bJ false false Qb [] []) (c:=af Tryz.f61) Tryz.func61 (by kernel_rfl) (by kernel_rfl) rfl ?_
 intro ds chk v vs hF ht he hr base
 unfold WJ at hF
 split at hF
 · rename_i a b c d e f g h i j k
   cases hF
   have hvs:vs= [G5 a b c d e f g h i j k]:=by simp only [bq,bn,bF,bD,Option.some.injEq] at he; exact he.symm
   subst hvs
   rw [Le]
   exact aB (dM (sy:=false) (rw:=false) TJ bf.nil dO.nil) (n:=400) (bs0:= []) (h:=Eq.trans (b:=ae4 [!bU a, !bU b, !bU c, !bU d, !bU e, !bU f, !bU g, !bU h, !bU i, !bU j, !bU k] (!zB a) (!zB k)) (by kernel_rfl) (QN ..)) (aL.refl _) trivial
 · cases hF

noncomputable def WK:List D→Option (List Bool × V)
 | [.n a, .n b, .n c, .n d, .n e, .n f, .n g, .n h, .n i]=> some ([],bI (Bb a b c d e f g h i))
 | _=> none
noncomputable def Tm:aj:=spec [akG] WK
noncomputable abbrev Qc:List (FuncId × aj):= [(73,qH)]
theorem TK:aD Tryz.prog (aK Qc):=(.cons o5 .nil)
noncomputable abbrev Vy:List (FuncId × Func):= [(97,Tryz.f97),(96,Tryz.f96),(134,Tryz.f134),(98,Tryz.f98)]
theorem Zc:bf Tryz.prog (gY Vy):=(bf.cons Tryz.func97 (by kernel_rfl) (bf.cons Tryz.func96 (by kernel_rfl) (bf.cons Tryz.func134 (by kernel_rfl) (bf.cons Tryz.func98 (by kernel_rfl) bf.nil))))
theorem OB:bg Tryz.prog 56 Tm:=by
 refine az (cx:=bJ false false Qc Vy []) (c:=af Tryz.f56) Tryz.func56 (by kernel_rfl) (by kernel_rfl) rfl ?_
 intro ds chk v vs hF ht he hr base
 unfold WK at hF
 split at hF
 · rename_i a b c d e f g h i
   cases hF
   have hvs:vs= [afg a b c d e f g h i]:=by simp only [bq,bn,bF,bD,Option.some.injEq] at he; exact he.symm
   subst hvs
   rw [VI]
   exact aB (dM (sy:=false) (rw:=false) TK Zc dO.nil) (n:=400) (bs0:= []) (h:=Eq.trans (b:=ae6 (!zB a) (!zB i) [!aJ a, !aJ b, !aJ c, !aJ d, !aJ e, !aJ f, !aJ g, !aJ h, !aJ i]) (by kernel_rfl) (ae7 ..)) (aL.refl _) trivial
 · cases hF

noncomputable def Jw:List D→Option (List Bool × V)
 | [.n a, .n b]=> some ([],vtm a b)
 | _=> none
noncomputable def Py:aj:=spec [iq,iq] Jw
noncomputable abbrev GG:List (FuncId × aj):= []
theorem Ms:aD Tryz.prog (aK GG):=aD.nil
theorem SH:bg Tryz.prog 65 Py:=by
 refine az (cx:=bJ false false GG [] []) (c:=af Tryz.f65) Tryz.func65 (by kernel_rfl) (by kernel_rfl) rfl ?_
 intro ds chk v vs hF ht he hr base
 unfold Jw at hF
 split at hF
 · rename_i a b
   cases hF
   have hvs:vs= [cB a,cB b]:=by simp only [bq,bn,bF,bD,Option.some.injEq] at he; exact he.symm
   subst hvs
   exact aB (dM (sy:=false) (rw:=false) Ms bf.nil dO.nil) (n:=400) (bs0:= []) (by kernel_rfl) (aL.refl _) trivial
 · cases hF
end Go.Proofs.YtcgmcohkkigphaaGreat
