/-
  The laws TokenNumbers and TokenPoints answer true.
-/
import Derived.Test.YtcgmcohkkigphaaGreatLb114
set_option maxRecDepth 100000
namespace Go.Proofs.YtcgmcohkkigphaaGreat
open Go Vx Go.RowKit

noncomputable abbrev acf:Out:=aV (bI true)
noncomputable abbrev Ov:Out:=aV (bI false)
theorem El {p q:Prop} [Decidable p] [Decidable q] (h:p↔q):(decide p==decide q)=true:=by
 by_cases hp:p
 · rw [decide_eq_true hp,decide_eq_true (h.1 hp)]; rfl
 · rw [decide_eq_false hp,decide_eq_false (fun e=> hp (h.2 e))]; rfl
theorem ace {a b:Nat} (ha:a<2^128) (hb:b<2^128):mQ a=mQ b↔a=b:=by
 rw [Lr ha,Lr hb]
 omega
theorem abf {y z:Int} (hy:jm .u32 y=true) (hz:jm .u32 z=true):qj y=qj z↔y=z:=by
 rw [yT,yT]
 simp only [jm,Bool.and_eq_true,decide_eq_true_eq] at hy hz
 omega
theorem KR {i:Nat} (hi:i<2^128) (h:gT i=0):Vk (dW i)=i:=by
 rcases rF i with ⟨_,c,hc,e,_⟩ | ⟨e,_⟩
 · rw [ajs,e,U8 hi hc]
   omega
 · rw [h] at e; cases e
theorem afW {i:Nat} (hi:i<2^128) (h:gT i=0):EJ (dW i)=0∧EK (dW i)=i:=by
 unfold EJ EK
 rw [KR hi h,h,decide_eq_true rfl,decide_eq_true rfl]
 exact ⟨rfl,rfl⟩
theorem abt {i o:Nat} (hi:i<2^128) (ho:o<2^128) (h1:gT i=0) (h2:gT o=0):dW i=dW o↔i=o:=
 ⟨fun e=> by rw [← KR hi h1,e,KR ho h2],fun e=> by rw [e]⟩
noncomputable def ac5 (a b c d e s x y z w:Bool):Out:=bif !a then Ov else bif !b then Ov else bif !c then Ov else bif !d then Ov else bif !e then (bif s then acf else Ov) else bif x then (bif y then (bif !z then acf else bif w then acf else Ov) else Ov) else Ov
theorem agP {s x y z w:Bool} (hs:s=true):ac5 true true true true false s x y z w=acf:=by rw [hs]; rfl
theorem agO {s x y z w:Bool} (hx:x=true) (hy:y=true) (hw:z=true→w=true):ac5 true true true true true s x y z w=acf:=by
 rw [hx,hy]
 cases z with
 | false=> rfl
 | true=> rw [hw rfl]; rfl

noncomputable def uU:List D→Option (List Bool × V)
 | [.n _, .i _, .n _, .i _]=> some ([],bI true)
 | _=> none
noncomputable def Ie:aj:=spec [Ui,Ui] uU
noncomputable abbrev jS:List (FuncId × aj):= [(12,uT),(13,aen),(14,Gr)]
theorem Am:aD Tryz.prog (aK jS):=(.cons oq (.cons acz (.cons FI .nil)))
theorem CE:bg Tryz.prog 3 Ie:=by
 refine az (cx:=bJ true false jS [] []) (c:=af Tryz.f3) Tryz.func3 (by kernel_rfl) (by kernel_rfl) rfl ?_
 intro ds chk v vs hF ht he hr base
 unfold uU at hF
 split at hF
 · rename_i a y b z
   cases hF
   have hvs:vs= [Aw a y,Aw b z]:=by simp only [bq,bn,bF,bD,Option.some.injEq] at he; exact he.symm
   subst hvs
   obtain ⟨⟨ha,hy,_⟩,⟨hb,hz,_⟩,_⟩:=hr
   have hev:w9 (bJ true false jS [] []) 400 (af Tryz.f3) ⟨t0 Tryz.f3 [Aw a y,Aw b z],[]⟩ (jv (bJ true false jS [] []) Tryz.f3 base)=Yc [decide (mQ a=mQ a),decide (qj y=qj y),decide (mQ a=mQ b)==decide (a=b),decide (qj y=qj z)==decide (y=z)]:=by kernel_rfl
   rw [Yd (aF (decide_eq_true rfl) (aF (decide_eq_true rfl) (aF (El (ace ha hb)) (aU (El (abf hy hz))))))] at hev
   exact aB (dM (sy:=true) (rw:=false) Am bf.nil dO.nil) (n:=400) (bs0:= []) hev (aL.refl _) trivial
 · cases hF

noncomputable def xw:List D→Option (List Bool × V)
 | [.n _, .n _, .n _]=> some ([],bI true)
 | _=> none
noncomputable def Md:aj:=spec [tid,tid,iq] xw
noncomputable abbrev kY:List (FuncId × aj):= [(39,BA),(40,Tu),(41,adK),(42,aem),(14,Gr)]
theorem qQ:aD Tryz.prog (aK kY):=(.cons uJ (.cons OJ (.cons aco (.cons acy (.cons FI .nil)))))
theorem FM:bg Tryz.prog 11 Md:=by
 refine az (cx:=bJ true false kY [] []) (c:=af Tryz.f11) Tryz.func11 (by kernel_rfl) (by kernel_rfl) rfl ?_
 intro ds chk v vs hF ht he hr base
 unfold xw at hF
 split at hF
 · rename_i i o p
   cases hF
   have hvs:vs= [Yh i,Yh o,cB p]:=by simp only [bq,bn,bF,bD,Option.some.injEq] at he; exact he.symm
   subst hvs
   obtain ⟨⟨hi,_⟩,⟨ho,_⟩,_⟩:=hr
   have hev:w9 (bJ true false kY [] []) 400 (af Tryz.f11) ⟨t0 Tryz.f11 [Yh i,Yh o,cB p],[]⟩ (jv (bJ true false kY [] []) Tryz.f11 base)=ac5 (decide (dW i=dW i)) (decide (gT i=gT i)) (decide (EK p=EK p)) (decide (EJ p=EJ p)) (decide (gT i=0)) (decide (gT i=7)) (decide (EJ (dW i)=0)) (decide (EK (dW i)=i)) (decide (gT o=0)) (decide (dW i=dW o)==decide (i=o)):=by kernel_rfl
   rw [decide_eq_true (show dW i=dW i from rfl),decide_eq_true (show gT i=gT i from rfl),decide_eq_true (show EK p=EK p from rfl),decide_eq_true (show EJ p=EJ p from rfl)] at hev
   rcases rF i with ⟨h,_⟩ | ⟨h,_⟩
   · obtain ⟨h1,h2⟩:=afW hi h
     rw [h,h1,h2,decide_eq_true (show (0:Int)=0 from rfl),agO rfl (decide_eq_true rfl) (fun e=> El (abt hi ho h (of_decide_eq_true e)))] at hev
     exact aB (dM (sy:=true) (rw:=false) qQ bf.nil dO.nil) (n:=400) (bs0:= []) hev (aL.refl _) trivial
   · rw [h,decide_eq_false (show ¬ (7:Int)=0 by decide),agP (decide_eq_true rfl)] at hev
     exact aB (dM (sy:=true) (rw:=false) qQ bf.nil dO.nil) (n:=400) (bs0:= []) hev (aL.refl _) trivial
 · cases hF
end Go.Proofs.YtcgmcohkkigphaaGreat
