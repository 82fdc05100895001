/-
  An executor of Go code on values of its own: contracts; one operation of a region.
-/
import Derived.Test.YtcgmcohkkigphaaGreatX2
import Derived.LoopN
import Derived.Laws.Externs
namespace Vx
open Go Go.RowKit

def iD (P:Program) (f:FuncId) (vals:Array Value) (w:World) (R:Value→World→Prop):Prop:=
 match (callFunc f vals).run P w with
 | .ok (.enter g args) w'=> Calls P g args w' fun
   | .returned x,w''=> R x w''
   | _,_=> False
 | .ok (.value x) w'=> R x w'
 | _=> False

def tJ (base:Nat) (σ σ':Sg) (w w':World):List bQ→Prop
 | []=> σ'=σ
 | [b]=> (∃ (n:Nat) (xs:List Value),w.heap.size≤n∧n<w'.heap.size∧σ'=upd σ base n xs.length∧fA w' n xs b.elem∧fD σ' b.c xs)∨
  (σ'=σ∧ ∃ ts,b.c= .row ts [])
 | _=> False

def bg (P:Program) (f:FuncId) (sp:aj):Prop:=
 ∀ base args chk v bs,sp base args=some (chk,v,bs)→allT chk→ ∀ (ro:Nat) (σ:Sg) (h:Hp) (w:World) (l:List V) (vals:List Value),bT ro σ h w→fM (hg h) l=some args→
   eD (aQ σ) l vals→σ base=none→
   iD P f vals.toArray w fun x w'=> ∃ σ',Below w.heap.size w w'∧aQ σ' v x∧tJ base σ σ' w w' bs

def aD (P:Program) (tab:FuncId→Option aj):Prop:= ∀ f sp,tab f=some sp→bg P f sp

structure Fr (w0:World) (W:Nat→Prop) (ro:Nat) (σ:Sg) (w:World):Prop where
 os:w.os=w0.os
 tape:w.tape=w0.tape
 output:w.output=w0.output
 size:w0.heap.size≤w.heap.size
 old: ∀ b,b<w0.heap.size→ ¬ W b→w.heap[b]? =w0.heap[b]?
 own: ∀ i b,σ i=some b→ro≤i→W b∨w0.heap.size≤b

structure gL (w0:World) (W:Nat→Prop) (ro:Nat) (σ:Sg) (st:St) (a:Act) (w:World):Prop where
 defers:a.defers= []
 t:DJ σ st.t a.tmps
 h:bT ro σ st.h w
 fr:Fr w0 W ro σ w

inductive StepB (cx:Cx) (all:List Oper) (o:Oper) (id:Nat) (st:St):St→Prop where
 | skip:bO all o st.t=some false→StepB cx all o id st ⟨bR st.t o.dst bW,st.h⟩
 | st {s:Step} {v:V}:bO all o st.t=some true→oG cx o.op (fo st.t) (hg st.h) id= .st s→Gives s v→StepB cx all o id st ⟨bR st.t o.dst v,st.h⟩
 | wr {chk:List Bool} {i:Nat} {b:bQ}:bO all o st.t=some true→oG cx o.op (fo st.t) (hg st.h) id= .wr chk i b→allT chk→
  StepB cx all o id st ⟨bR st.t o.dst bW,st.h.set i (some b)⟩
 | nw {chk:List Bool} {v:V} {bs:List bQ}:bO all o st.t=some true→oG cx o.op (fo st.t) (hg st.h) id= .nw chk v bs→allT chk→
  StepB cx all o id st ⟨bR st.t o.dst v,O4 st.h id bs⟩
 | mv {chk:List Bool} {v:V} {us:List (Nat × bQ)}:bO all o st.t=some true→oG cx o.op (fo st.t) (hg st.h) id= .mv chk v us→allT chk→
  StepB cx all o id st ⟨bR st.t o.dst v,dE st.h us⟩

abbrev JT:=FuncId→List V→Hp→V→Hp→Prop

inductive kg (J:JT) (cx:Cx) (all:List Oper) (o:Oper) (id:Nat) (st:St):St→Prop where
 | base {st':St}:fu cx (fo st.t) o.op=none→StepB cx all o id st st'→kg J cx all o id st st'
 | skip:bO all o st.t=some false→kg J cx all o id st ⟨bR st.t o.dst bW,st.h⟩
 | il {f:FuncId} {as:List V} {v:V} {h:Hp}:bO all o st.t=some true→fu cx (fo st.t) o.op=some (f,as)→cx.ex f=false→J f as st.h v h→kr st.h h=true→
  kg J cx all o id st ⟨bR st.t o.dst v,h⟩
 | ilx {f:FuncId} {as:List V} {v:V} {h:Hp}:bO all o st.t=some true→fu cx (fo st.t) o.op=some (f,as)→cx.ex f=true→iQ cx.ro st.h (bz (hg st.h) as) as=true→
  J f as (gZ (bz (hg st.h) as) 0 st.h) v h→kr (gZ (bz (hg st.h) as) 0 st.h) h=true→kg J cx all o id st ⟨bR st.t o.dst v,fK (bz (hg st.h) as) 0 st.h h⟩

theorem K3 (t:List V) (d i:Nat) (v:V):gl (t.set d v) i=if i=d∧d<t.length then v else gl t i:=by
 unfold gl
 rw [List.getD_eq_getElem?_getD,List.getElem?_set,List.getD_eq_getElem?_getD]
 by_cases hi:d=i
 · subst hi
   by_cases hd:d<t.length
   · simp [hd]
   · simp [hd]
 · rw [if_neg hi,if_neg (fun h=> hi h.1.symm)]

theorem DJ.put {σ:Sg} {t:List V} {a:Act} (h:DJ σ t a.tmps) (d:Option Tmp) {v:V} {y:Value} (hv:aQ σ v y):
 DJ σ (bR t d v) (a.put d y).tmps:=by
 cases d with
 | none=> exact h
 | some d=>
   refine ⟨by simp [bR,Act.put,h.1],?_⟩
   intro i
   simp only [bR,Act.put]
   rw [K3]
   have hi:=h.2 i
   by_cases hc:i=d∧d<t.length
   · obtain ⟨rfl,hd⟩:=hc
     rw [if_pos ⟨rfl,hd⟩]
     have:i<a.tmps.size:=by rw [h.1]; exact hd
     simpa [Array.getD,this] using hv
   · rw [if_neg hc]
     have e:(a.tmps.setIfInBounds d y).getD i undef=a.tmps.getD i undef:=by
      by_cases hid:i=d
      · subst hid
        have: ¬ i<a.tmps.size:=by rw [h.1]; exact fun hlt=> hc ⟨rfl,hlt⟩
        simp [Array.getD,this]
      · simp only [Array.getD,Array.size_setIfInBounds]
        split
        · rename_i hlt
          have:(a.tmps.setIfInBounds d y)[i]'(by simpa using hlt)=a.tmps[i]:=by
           rw [Array.getElem_setIfInBounds (by simpa using hlt),if_neg (fun e=> hid (Eq.symm e))]
          simpa using this
        · rfl
     rw [e]
     exact hi

theorem DJ.mono {σ τ:Sg} {t:List V} {tm:Array Value} (hs:Sub σ τ) (h:DJ σ t tm):DJ τ t tm:=⟨h.1,fun i=> (h.2 i).mono hs⟩

theorem vX (σ:Sg):aQ σ bW undef:=⟨[],rfl, .nil⟩

section
variable {P:Program} {w:World} {σ:Sg} {ro:Nat} {w0:World} {W:Nat→Prop}

theorem Fr.sub {τ:Sg} (h:Fr w0 W ro σ w) (hn: ∀ i b,τ i=some b→σ i=some b∨w0.heap.size≤b):Fr w0 W ro τ w:=
 { h with own:=fun i b hi hr=> (hn i b hi).elim (fun h1=> h.own i b h1 hr) .inr }

theorem Fr.alloc (h:Fr w0 W ro σ w) (o:Obj) (id sz:Nat):Fr w0 W ro (upd σ id w.heap.size sz) (w.alloc o) where
 os:=h.os
 tape:=h.tape
 output:=h.output
 size:=by have:=h.size; simp; omega
 old:=fun b hb hW=> by
  rw [DU _ _ _ (by have:=h.size; omega)]
  exact h.old b hb hW
 own:=fun i b hi hr=> by
  by_cases h1:i=id
  · subst h1
    rw [dZ] at hi; cases hi; exact .inr h.size
  · rw [upd_ne h1] at hi
    exact h.own i b hi hr

theorem Fr.Kb (h:Fr w0 W ro σ w) {w':World} {xs:List Value} {t:TypeId} (hw:Q5 w w' xs t) (id sz:Nat):Fr w0 W ro (upd σ id w.heap.size sz) w' where
 os:=hw.os.trans h.os
 tape:=hw.tape.trans h.tape
 output:=hw.output.trans h.output
 size:=by have:=h.size; rw [hw.size]; omega
 old:=fun b hb hW=> by
  rw [hw.old _ (by have:=h.size; omega)]
  exact h.old b hb hW
 own:=fun i b hi hr=> by
  by_cases h1:i=id
  · subst h1
    rw [dZ] at hi; cases hi; exact .inr h.size
  · rw [upd_ne h1] at hi
    exact h.own i b hi hr

theorem Fr.setRow (h:Fr w0 W ro σ w) {id n:Nat} (cs:Array Value) (hn:σ id=some n) (hr:ro≤id):Fr w0 W ro σ (w.setRow n cs) where
 os:=h.os
 tape:=h.tape
 output:=h.output
 size:=by have:=h.size; simp; omega
 old:=fun b hb hW=> by
  have hne:b≠n:=by
   rintro rfl
   rcases h.own id b hn hr with h1 | h1
   · exact hW h1
   · omega
  rw [setRow_other w n b cs hne]
  exact h.old b hb hW
 own:=h.own

theorem Fr.below (h:Fr w0 W ro σ w) {w':World} (hb:Below w.heap.size w w'):Fr w0 W ro σ w' where
 os:=hb.os.trans h.os
 tape:=hb.tape.trans h.tape
 output:=hb.output.trans h.output
 size:=Nat.le_trans h.size hb.size
 old:=fun b hlt hW=> by
  rw [hb.block b (by have:=h.size; omega)]
  exact h.old b hlt hW
 own:=h.own

theorem Fr.grown {τ:Sg} (h:Fr w0 W ro σ w) {w':World} {row:Option Nat} (hg:w.grownBy w' row) (hrow: ∀ n,row=some n→ ∃ i,ro≤i∧σ i=some n)
 (hown: ∀ i n,τ i=some n→ro≤i→(∃ j,ro≤j∧σ j=some n)∨w.heap.size≤n):Fr w0 W ro τ w' where
 os:=hg.os.trans h.os
 tape:=hg.tape.trans h.tape
 output:=hg.output.trans h.output
 size:=Nat.le_trans h.size hg.size
 old:=fun b hlt hW=> by
  have h1:=h.size
  rw [hg.block b (by omega)]
  · exact h.old b hlt hW
  · intro e
    obtain ⟨i,hi,hb⟩:=hrow b e.symm
    rcases h.own i b hb hi with k | k
    · exact hW k
    · omega
 own:=fun i b hi hr=> by
  rcases hown i b hi hr with ⟨j,hj,hb⟩ | k
  · exact h.own j b hb hj
  · exact .inr (Nat.le_trans h.size k)

theorem bT.below {h:Hp} (hh:bT ro σ h w) {w':World} (hb:Below w.heap.size w w'):bT ro σ h w' where
 blk:=fun id b hid=> by
  rcases hh.blk id b hid with ⟨n,xs,hn,hg,hc⟩ | k
  · exact .inl ⟨n,xs,hn,hg.Nj (hb.block n (hh.live id n hn).1),hc⟩
  · exact .inr k
 inj:=hh.inj
 live:=fun i n hi=> ⟨Nat.lt_of_lt_of_le (hh.live i n hi).1 hb.size,(hh.live i n hi).2⟩
 siz:=fun i n hi=> by
  rw [hb.block n (hh.live i n hi).1]
  exact hh.siz i n hi
 sep:=hh.sep
 imm:=fun n hn=> by
  obtain ⟨h1,h2⟩:=hh.imm n hn
  exact ⟨Nat.lt_of_lt_of_le h1 hb.size,by rw [hb.block n h1]; exact h2⟩

theorem bT.gain {h:Hp} (hh:bT ro σ h w) {id n:Nat} {b:bQ} {xs:List Value} (hlt:id<h.length) (hnone:hg h id=none)
 (hn:n<w.heap.size) (hnew: ∀ i,σ i≠some n) (him: ¬ σ.im n) (hg':fA w n xs b.elem) (hc:fD (upd σ id n xs.length) b.c xs):
 bT ro (upd σ id n xs.length) (h.set id (some b)) w:=by
 have hsub:Sub σ (upd σ id n xs.length):=wJ (hh.fresh hnone) (fun i hi=> absurd hi (hnew i))
 have hdead: ∀ j,dR h j→dR (h.set id (some b)) j:=by
  rintro j ⟨e,he⟩
  refine ⟨e,?_⟩
  rw [fO hlt,if_neg]
  · exact he
  · rintro rfl; rw [hnone] at he; cases he
 refine ⟨?_,?_,?_,?_,?_,hh.imm⟩
 · intro j b' hj
   rw [fO hlt] at hj
   by_cases hji:j=id
   · subst hji
     rw [if_pos rfl] at hj
     cases hj
     exact .inl ⟨n,xs,dZ _ _ _ _,hg',hc⟩
   · rw [if_neg hji] at hj
     rcases hh.blk j b' hj with ⟨m,zs,hm,hgm,hcm⟩ | ⟨h1,h2⟩
     · exact .inl ⟨m,zs,hsub.get hm,hgm,hcm.mono hsub⟩
     · exact .inr ⟨h1,by rw [upd_ne hji]; exact h2⟩
 · intro i j m hro hi hj
   by_cases h1:i=id<;> by_cases h2:j=id
   · exact .inl (h1.trans h2.symm)
   · subst h1
     rw [dZ] at hi; rw [upd_ne h2] at hj
     cases hi
     exact absurd hj (hnew j)
   · subst h2
     rw [upd_ne h1] at hi; rw [dZ] at hj
     cases hj
     exact absurd hi (hnew i)
   · rw [upd_ne h1] at hi; rw [upd_ne h2] at hj
     rcases hh.inj i j m hro hi hj with e | e | e
     · exact .inl e
     · exact .inr (.inl (hdead i e))
     · exact .inr (.inr (hdead j e))
 · intro i m hi
   rw [fO hlt]
   by_cases h1:i=id
   · subst h1
     rw [dZ] at hi
     cases hi
     rw [if_pos rfl]
     exact ⟨hn,rfl⟩
   · rw [upd_ne h1] at hi
     rw [if_neg h1]
     exact hh.live i m hi
 · intro i m hi
   by_cases h1:i=id
   · subst h1
     rw [dZ] at hi
     cases hi
     obtain ⟨fr0,hg0,_⟩:=hg'
     refine ⟨_,_,_,hg0,?_⟩
     show xs.toArray.size=if n=n then xs.length else σ.z n
     rw [if_pos rfl]; simp
   · rw [upd_ne h1] at hi
     obtain ⟨cs,t,fr,g1,g2⟩:=hh.siz i m hi
     exact ⟨cs,t,fr,g1,by rw [(hsub.1 i m hi).2]; exact g2⟩
 · intro i m hro hi
   by_cases h1:i=id
   · subst h1
     rw [dZ] at hi
     cases hi
     exact him
   · rw [upd_ne h1] at hi
     exact hh.sep i m hro hi

theorem iE {cx:Cx} {ops:Array Oper} {o:Oper} {st:St} {a:Act} {g:Bool} (hg:bO ops.toList o st.t=some g) (ht:DJ σ st.t a.tmps):
 Region.wanted o (yielded ops a.tmps)=g:=by
 have _:=cx
 unfold bO at hg
 unfold Region.wanted
 cases ho:o.guard with
 | none=> simp only [ho,Option.some.injEq] at hg; simp [hg]
 | some jw=>
   obtain ⟨j,want⟩:=jw
   simp only [ho] at hg ⊢
   rw [Array.getElem?_toList] at hg
   cases hj:ops[j]? with
   | none=> simp [hj] at hg
   | some q=>
     simp only [hj] at hg
     cases hd:q.dst with
     | none=> simp [hd] at hg
     | some d=>
       simp only [hd] at hg
       have hy:yielded ops a.tmps j=match a.tmps[d]? with
        | some (.bool b)=> some b
        | _=> none:=by simp only [yielded,hj,hd,Option.bind_some]; rfl
       have hr:=ht.2 d
       split at hg
       · rename_i b hb
         cases hg
         rw [hb] at hr
         have hv:=GZ hr
         have hs:a.tmps[d]? =some (.bool b):=by
          by_cases hlt:d<a.tmps.size
          · simp only [Array.getD,hlt,dite_true] at hv
            rw [Array.getElem?_eq_getElem hlt]
            exact congrArg some hv
          · simp [Array.getD,hlt,undef] at hv
         rw [hy,hs]
         cases b<;> cases want<;> rfl
       · rename_i xs hb
         cases hg
         rw [hb] at hr
         obtain ⟨vs,hvs,_⟩:=hr
         have hs:(match a.tmps[d]? with
          | some (.bool b)=> some b
          | _=> none)=(none:Option Bool):=by
          by_cases hlt:d<a.tmps.size
          · simp only [Array.getD,hlt,dite_true] at hvs
            rw [Array.getElem?_eq_getElem hlt]
            have:a.tmps[d]= .tuple vs.toArray:=hvs
            rw [this]
          · rw [Array.getElem?_eq_none (Nat.le_of_not_lt hlt)]
         rw [hy,hs]
         rfl
       · cases hg

theorem vD {t:List V} {a:Act} (ht:DJ σ t a.tmps): ∀ (l:List Operand),eD (aQ σ) (l.map (fo t)) (l.map a.eval)
 | []=> .nil
 | x::l=> .cons (eG ht x) (vD ht l)

end
end Vx

/-
  An executor of Go code on values of its own: a body that is run in place on some blocks alone.
-/
namespace Vx
open Go Go.RowKit

structure Kp (qm:Bool) (kp:Nat→Bool) (σ τ:Sg):Prop where
 m: ∀ i,kp i=true→τ i=σ i
 z: ∀ i n,kp i=true→σ i=some n→τ.z n=σ.z n
 wi:qm=false→τ.w=σ.w∧τ.im=σ.im

theorem eF.qm {W W':World} {im im':Nat→Prop} {t:LT} {d:D} {xs:List Value} (hd:ald t=true) (h:eF W im t d xs):eF W' im' t d xs:=by
 cases t with
 | sl ts=> cases hd
 | pk k b c=> simp only [eF] at h ⊢; exact h
 | int k=> simp only [eF] at h ⊢; exact h
 | bool=> simp only [eF] at h ⊢; exact h
 | str=> simp only [eF] at h ⊢; exact h

theorem aT.qm {W W':World} {im im':Nat→Prop}: ∀ {t:List LT} {d:List D} {xs:List Value},U4 t=true→aT W im t d xs→aT W' im' t d xs
 | [],_,_,_,h=> by simp only [aT] at h ⊢; exact h
 | t::ts,d,xs,hd,h=> by
   simp only [U4,Bool.and_eq_true] at hd
   simp only [aT] at h ⊢
   obtain ⟨ys,zs,e,h1,h2⟩:=h
   exact ⟨ys,zs,e,h1.qm hd.1,aT.qm hd.2 h2⟩

section
variable {σ τ:Sg} {kp:Nat→Bool} {qm:Bool}

theorem dV.keep (hk:Kp qm kp σ τ) {l:L} {xs:List Value} (ho:SF qm kp l=true) (h:dV σ l xs):dV τ l xs:=by
 cases l with
 | ptr id off=> obtain ⟨b,hb,e⟩:=h; exact ⟨b,(hk.m id ho).trans hb,e⟩
 | jA id s i r=> obtain ⟨b,hb,e⟩:=h; exact ⟨b,(hk.m id ho).trans hb,e⟩
 | sl id off n c=> obtain ⟨b,hb,e⟩:=h; exact ⟨b,(hk.m id ho).trans hb,e⟩
 | row id s off len mx=>
   rcases h with ⟨b,cap,hb,hz,r⟩ | h
   · exact .inl ⟨b,cap,(hk.m id ho).trans hb,by rw [hk.z id b ho hb]; exact hz,r⟩
   · exact .inr h
 | rd ts x=>
   have hd:qm=false:=by simpa [SF] using ho
   simp only [dV] at h ⊢
   rw [(hk.wi hd).1,(hk.wi hd).2]; exact h
 | rp ts x off=>
   have hd:qm=false:=by simpa [SF] using ho
   simp only [dV] at h ⊢
   rw [(hk.wi hd).1,(hk.wi hd).2]; exact h
 | CV f caps=>
   obtain ⟨vals,e,hall⟩:=h
   refine ⟨vals,e,?_⟩
   clear e
   simp only [SF] at ho
   induction hall with
   | nil=> exact .nil
   | cons h1 _ ih=>
     simp only [List.all_cons,Bool.and_eq_true] at ho
     obtain ⟨b,hb,e2⟩:=h1
     exact .cons ⟨b,(hk.m _ ho.1).trans hb,e2⟩ (ih ho.2)
 | _=> exact h

theorem aX.keep (hk:Kp qm kp σ τ): ∀ {l:List L} {xs:List Value},Zr qm kp l=true→aX σ l xs→aX τ l xs
 | [],_,_,h=> h
 | _::_,_,ho,⟨ys,zs,e,h1,h2⟩=> by
   simp only [Zr,Bool.and_eq_true] at ho
   exact ⟨ys,zs,e,h1.keep hk ho.1,aX.keep hk ho.2 h2⟩

theorem C9: ∀ {l:List L},EM l=true→Zr qm kp l=true
 | [],_=> rfl
 | x::l,h=> by
   simp only [EM,Bool.and_eq_true] at h
   simp only [Zr,Bool.and_eq_true]
   refine ⟨?_,C9 h.2⟩
   cases x<;> first | rfl | (simp [L.flat] at h)

theorem fD.keep (hk:Kp qm kp σ τ) {c:C} {xs:List Value} (ho:okC qm kp c=true) (h:fD σ c xs):fD τ c xs:=by
 cases c with
 | ps l=> exact aX.keep hk ho h
 | big s c f=> exact ⟨h.1,fun i hi=> ⟨aX.keep hk (C9 (h.2 i hi).2) (h.2 i hi).1,(h.2 i hi).2⟩⟩
 | row ts x=>
   obtain ⟨h1,h2,h3⟩:=h
   refine ⟨h1,?_,h3⟩
   intro i e hi
   cases qm with
   | false=> rw [(hk.wi rfl).1,(hk.wi rfl).2]; exact h2 i e hi
   | true=> exact (h2 i e hi).qm (by simpa [okC] using ho)
 | dead=> trivial

theorem mP.keep (hk:Kp qm kp σ τ) {u:U} {x:Value} (ho:okU qm kp u=true) (h:mP σ u x):mP τ u x:=by
 cases u with
 | one l=> exact ⟨h.1,h.2.keep hk ho⟩
 | ag c=> obtain ⟨xs,e,hc⟩:=h; exact ⟨xs,e,hc.keep hk ho⟩

theorem aQ.keep (hk:Kp qm kp σ τ) {v:V} {x:Value} (ho:okV qm kp v=true) (h:aQ σ v x):aQ τ v x:=by
 cases v with
 | aC=> trivial
 | u y=> exact mP.keep hk ho h
 | dX ys=>
   obtain ⟨xs,e,ha⟩:=h
   refine ⟨xs,e,?_⟩
   clear e
   simp only [okV] at ho
   induction ha with
   | nil=> exact .nil
   | cons h1 _ ih=>
     simp only [agp,Bool.and_eq_true] at ho
     exact .cons (mP.keep hk ho.1 h1) (ih ho.2)

end

theorem lG: ∀ {h h':Hp},kr h h'=true→ ∀ j,j<h.length→j<h'.length∧(hg h j=none→hg h' j=none)
 | [],_,_,j,hj=> by simp at hj
 | none::a,[],hk,_,_=> by simp [kr] at hk
 | none::a,some b::l,hk,_,_=> by simp [kr] at hk
 | none::a,none::l,hk,j,hj=> by
   cases j with
   | zero=> exact ⟨by simp,fun _=> rfl⟩
   | succ j=>
     obtain ⟨h1,h2⟩:=lG (h:=a) (h':=l) hk j (by simpa using hj)
     exact ⟨by simpa using h1,fun h=> h2 h⟩
 | some c::a,[],hk,_,_=> by simp [kr] at hk
 | some c::a,b::l,hk,j,hj=> by
   cases j with
   | zero=> exact ⟨by simp,fun h=> by cases h⟩
   | succ j=>
     obtain ⟨h1,h2⟩:=lG (h:=a) (h':=l) hk j (by simpa using hj)
     exact ⟨by simpa using h1,fun h=> h2 h⟩

theorem qz {h m:Hp} (hk:kr h m=true):h.length≤m.length:=by
 rcases Nat.lt_or_ge m.length h.length with hl | hl
 · have:=(lG hk m.length hl).1
   omega
 · exact hl

theorem mi {K:List Nat} {i:Nat}:eP K i=true↔i∈K:=by
 unfold eP
 rw [List.any_eq_true]
 constructor
 · rintro ⟨k,hk,e⟩; rw [Nat.eq_of_beq_eq_true e]; exact hk
 · intro h; exact ⟨i,h,Nat.beq_refl _⟩

theorem ku (K:List Nat): ∀ (i:Nat) (h:Hp),(gZ K i h).length=h.length
 | _,[]=> rfl
 | i,b::h=> by rw [gZ,List.length_cons,ku K (i+1) h,List.length_cons]

theorem Oc (K:List Nat): ∀ (h:Hp) (i j:Nat),hg (gZ K i h) j=bif eP K (i+j) then hg h j else none
 | [],i,j=> by
   show hg [] j=_
   cases eP K (i+j)<;> rfl
 | b::h,i,0=> rfl
 | b::h,i,j+1=> by
   have:=Oc K h (i+1) j
   rw [show i+1+j=i+(j+1) by omega] at this
   exact this

theorem nL (K:List Nat) (h:Hp) (j:Nat):hg (gZ K 0 h) j=bif eP K j then hg h j else none:=by
 have:=Oc K h 0 j
 rwa [Nat.zero_add] at this

theorem AV (K:List Nat): ∀ (i:Nat) (h m:Hp),h.length≤m.length→(fK K i h m).length=m.length
 | _,[],m,_=> rfl
 | _,_::_,[],hl=> by simp at hl
 | i,b::h,c::m,hl=> by
   rw [fK,List.length_cons,AV K (i+1) h m (by simpa using hl),List.length_cons]

theorem NZ (K:List Nat): ∀ (h m:Hp) (i j:Nat),h.length≤m.length→hg (fK K i h m) j=if j<h.length then (bif eP K (i+j) then hg m j else hg h j) else hg m j
 | [],m,i,j,_=> by rw [if_neg (by simp)]; rfl
 | _::_,[],_,_,hl=> by simp at hl
 | b::h,c::m,i,0,_=> by
   rw [if_pos (by simp)]
   show (bif eP K i then c else b)=bif eP K (i+0) then c else b
   rfl
 | b::h,c::m,i,j+1,hl=> by
   have:=NZ K h m (i+1) j (by simpa using hl)
   rw [show i+1+j=i+(j+1) by omega] at this
   show hg (fK K (i+1) h m) j=_
   rw [this]
   by_cases hj:j<h.length
   · rw [if_pos hj,if_pos (by simpa using hj)]; rfl
   · rw [if_neg hj,if_neg (by simpa using hj)]; rfl

theorem vN (K:List Nat) {h m:Hp} (hl:h.length≤m.length) (j:Nat):hg (fK K 0 h m) j=if j<h.length then (bif eP K j then hg m j else hg h j) else hg m j:=by
 have:=NZ K h m 0 j hl
 rwa [Nat.zero_add] at this

theorem A9 (K:List Nat): ∀ (h:Hp) (i j:Nat) (b:Option bQ),eP K (i+j)=false→gZ K i (h.set j b)=gZ K i h
 | [],_,_,_,_=> rfl
 | c::h,i,0,b,hk=> by
   have hk':eP K i=false:=hk
   show (bif eP K i then b else none)::_=(bif eP K i then c else none)::_
   rw [hk']; rfl
 | c::h,i,j+1,b,hk=> by
   show _::gZ K (i+1) (h.set j b)=_
   rw [A9 K h (i+1) j b (by rw [show i+1+j=i+(j+1) by omega]; exact hk)]
   rfl

theorem AX (K:List Nat): ∀ (h m:Hp) (i j:Nat) (b:Option bQ),eP K (i+j)=false→j<h.length→fK K i (h.set j b) m=(fK K i h m).set j b
 | [],_,_,_,_,_,hj=> by simp at hj
 | _::_,[],_,0,_,_,_=> rfl
 | _::_,[],_,_+1,_,_,_=> rfl
 | a::h,c::m,i,0,b,hk,_=> by
   have hk':eP K i=false:=hk
   show (bif eP K i then c else b)::_=b::_
   rw [hk']; rfl
 | a::h,c::m,i,j+1,b,hk,hj=> by
   show _::fK K (i+1) (h.set j b) m=_::(fK K (i+1) h m).set j b
   rw [AX K h m (i+1) j b (by rw [show i+1+j=i+(j+1) by omega]; exact hk) (by simpa using hj)]

theorem wX {ro:Nat} {h:Hp} {K:List Nat} {as:List V} (hc:iQ ro h K as=true):ro=0∧(∀ i, ¬ dR h i)∧(∀ k∈K, ∃ b,hg h k=some b∧okC false (eP K) b.c=true)∧ ∀ v∈as,okV false (eP K) v=true:=by
 unfold iQ at hc
 simp only [Bool.and_eq_true,List.all_eq_true] at hc
 obtain ⟨⟨⟨h1,h2⟩,h3⟩,h4⟩:=hc
 refine ⟨Nat.eq_of_beq_eq_true h1,?_,?_,h4⟩
 · rintro i ⟨e,hd⟩
   have hm:some (⟨e, .dead⟩:bQ)∈h:=by
    unfold hg at hd
    rw [List.getD_eq_getElem?_getD] at hd
    cases hi:h[i]? with
    | none=> rw [hi] at hd; cases hd
    | some b=> rw [hi] at hd; have:b=some ⟨e, .dead⟩:=hd; rw [← this]; exact List.mem_of_getElem? hi
   have:=h2 _ hm
   cases this
 · intro k hk
   have:=h3 k hk
   cases hb:hg h k with
   | none=> rw [hb] at this; cases this
   | some b=> rw [hb] at this; exact ⟨b,rfl,this⟩

theorem iD.mono {P:Program} {f:FuncId} {vals:Array Value} {w:World} {R R':Value→World→Prop} (h:iD P f vals w R) (hi: ∀ x w',R x w'→R' x w'):iD P f vals w R':=by
 unfold iD at h ⊢
 split at h
 · refine h.mono ?_
   intro e w'' he
   cases e with
   | returned y=> exact hi y w'' he
   | panicked _=> exact he.elim
   | outgrown=> exact he.elim
 · exact hi _ _ h
 · exact h.elim

theorem eD.ahV {σ τ:Sg} {kp:Nat→Bool} (hk:Kp false kp σ τ): ∀ {as:List V} {vals:List Value},(∀ v∈as,okV false kp v=true)→eD (aQ σ) as vals→eD (aQ τ) as vals
 | _,_,_, .nil=> .nil
 | _,_,ho, .cons h hl=> .cons (h.keep hk (ho _ (List.mem_cons_self ..))) (eD.ahV hk (fun v hv=> ho v (List.mem_cons_of_mem _ hv)) hl)

theorem Zo {P:Program} {ro:Nat} {f:FuncId} {as:List V} {h hm:Hp} {v:V} {K:List Nat} {w0 w:World} {W:Nat→Prop} {σ:Sg} {vals:List Value}
 (hcl:iQ ro h K as=true) (hkeep:kr (gZ K 0 h) hm=true) (hh:bT ro σ h w) (hfr:Fr w0 W ro σ w) (hall:eD (aQ σ) as vals)
 (hcall: ∀ (W1:Nat→Prop) (τ:Sg),bT ro τ (gZ K 0 h) w→Fr w W1 ro τ w→eD (aQ τ) as vals→
  iD P f vals.toArray w fun x w'=> ∃ σ',Sub τ σ'∧aQ σ' v x∧bT ro σ' hm w'∧Fr w W1 ro σ' w'):
 iD P f vals.toArray w fun x w'=> ∃ σ',Sub σ σ'∧aQ σ' v x∧bT ro σ' (fK K 0 h hm) w'∧Fr w0 W ro σ' w':=by
 obtain ⟨hro,hnd,hK,hargs⟩:=wX hcl
 subst hro
 have hlen:h.length≤hm.length:=by
  rcases Nat.lt_or_ge hm.length h.length with hl | hl
  · have:=(lG hkeep hm.length (by rw [ku]; exact hl)).1
    omega
  · exact hl
 -- what is known of the blocks alone
 have tmk: ∃ τ:Sg,(∀ i,eP K i=true→τ i=σ i)∧(∀ i,eP K i=false→τ i=none)∧τ.z=σ.z∧τ.w=σ.w∧τ.im=σ.im:=
  ⟨⟨fun i=> bif eP K i then σ i else none,σ.z,σ.w,σ.im⟩,fun i hi=> (by show (bif eP K i then _ else _)=_; rw [hi]; rfl),fun i hi=> (by show (bif eP K i then _ else _)=_; rw [hi]; rfl),rfl,rfl,rfl⟩
 obtain ⟨τ,t1,t2,tz,tw,tim⟩:=tmk
 have hτ: ∀ i n,τ i=some n→eP K i=true∧σ i=some n:=by
  intro i n hi
  cases hm:eP K i with
  | true=> exact ⟨rfl,by rw [← t1 i hm]; exact hi⟩
  | false=> rw [t2 i hm] at hi; cases hi
 have kp:Kp false (eP K) σ τ:=⟨t1,fun i n _ _=> by rw [tz],fun _=> ⟨tw,tim⟩⟩
 have hmask: ∀ i b,hg (gZ K 0 h) i=some b→eP K i=true∧hg h i=some b:=by
  intro i b hi
  rw [nL] at hi
  cases hm:eP K i with
  | true=> rw [hm] at hi; exact ⟨rfl,hi⟩
  | false=> rw [hm] at hi; cases hi
 have hrel:bT 0 τ (gZ K 0 h) w:=by
  refine ⟨?_,?_,?_,?_,?_,?_⟩
  · intro i b hi
    obtain ⟨h1,h2⟩:=hmask i b hi
    obtain ⟨b',e,h4⟩:=hK i (mi.1 h1)
    rw [h2] at e
    cases e
    rcases hh.blk i b h2 with ⟨n,xs,g1,g2,g3⟩ | ⟨g1,g2⟩
    · exact .inl ⟨n,xs,(t1 i h1).trans g1,g2,g3.keep kp h4⟩
    · exact .inr ⟨g1,(t1 i h1).trans g2⟩
  · intro i j n hr hi hj
    obtain ⟨i1,i2⟩:=hτ i n hi
    obtain ⟨j1,j2⟩:=hτ j n hj
    rcases hh.inj i j n hr i2 j2 with e | ⟨e,hd⟩ | ⟨e,hd⟩
    · exact .inl e
    · exact .inr (.inl ⟨e,by rw [nL,i1]; exact hd⟩)
    · exact .inr (.inr ⟨e,by rw [nL,j1]; exact hd⟩)
  · intro i n hi
    obtain ⟨i1,i2⟩:=hτ i n hi
    refine ⟨(hh.live i n i2).1,?_⟩
    rw [nL,i1]
    exact (hh.live i n i2).2
  · intro i n hi
    obtain ⟨i1,i2⟩:=hτ i n hi
    rw [tz]
    exact hh.siz i n i2
  · intro i n hr hi
    obtain ⟨i1,i2⟩:=hτ i n hi
    rw [tim]
    exact hh.sep i n hr i2
  · intro n hn
    rw [tim] at hn
    rw [tw]
    exact hh.imm n hn
 have hfr1:Fr w (fun b=> ∃ k,eP K k=true∧σ k=some b) 0 τ w:=by
  refine ⟨rfl,rfl,rfl,Nat.le_refl _,fun _ _ _=> rfl,?_⟩
  intro i b hi _
  obtain ⟨i1,i2⟩:=hτ i b hi
  exact .inl ⟨i,i1,i2⟩
 refine (hcall _ τ hrel hfr1 (eD.ahV kp hargs hall)).mono ?_
 rintro x w' ⟨σ1,hsub,hv,hh1,hf1⟩
 -- what is known behind it
 have f1: ∀ i,i<h.length→eP K i=false→σ1 i=none:=by
  intro i hi hm
  cases hn:σ1 i with
  | none=> rfl
  | some n=>
    have hs:=(hh1.live i n hn).2
    have hkn:=(lG hkeep i (by rw [ku]; exact hi)).2
    rw [nL,hm] at hkn
    rw [hkn rfl] at hs
    cases hs
 have f2: ∀ i j n,eP K i=false→σ i=some n→σ1 j=some n→False:=by
  intro i j n hm hi hj
  have hlt:=(hh.live i n hi).1
  rcases hf1.own j n hj (Nat.zero_le _) with ⟨k,k1,k2⟩ | hge
  · rcases hh.inj i k n (Nat.zero_le _) hi k2 with e | e | e
    · rw [e,k1] at hm; cases hm
    · exact hnd _ e
    · exact hnd _ e
  · omega
 have f3: ∀ j n,σ1 j=some n→n<w.heap.size→σ1.z n=σ.z n:=by
  intro j n hj hlt
  rcases hf1.own j n hj (Nat.zero_le _) with ⟨k,k1,k2⟩ | hge
  · have:=(hsub.1 k n ((t1 k k1).trans k2)).2
    rw [this,tz]
  · omega
 have f4: ∀ i n,eP K i=false→σ i=some n→w'.heap[n]? =w.heap[n]? :=by
  intro i n hm hi
  refine hf1.old n (hh.live i n hi).1 ?_
  rintro ⟨k,k1,k2⟩
  rcases hh.inj i k n (Nat.zero_le _) hi k2 with e | e | e
  · rw [e,k1] at hm; cases hm
  · exact hnd _ e
  · exact hnd _ e
 have smk: ∃ τ':Sg,(∀ i,i<h.length→eP K i=false→τ' i=σ i)∧(∀ i, ¬ (i<h.length∧eP K i=false)→τ' i=σ1 i)∧(∀ n,n<w.heap.size→τ'.z n=σ.z n)∧(∀ n, ¬ n<w.heap.size→τ'.z n=σ1.z n)∧τ'.w=σ.w∧τ'.im=σ.im:=by
  refine ⟨⟨fun i=> if i<h.length∧eP K i=false then σ i else σ1 i,fun n=> if n<w.heap.size then σ.z n else σ1.z n,σ.w,σ.im⟩,?_,?_,?_,?_,rfl,rfl⟩
  · intro i h1 h2; exact if_pos ⟨h1,h2⟩
  · intro i h1; exact if_neg h1
  · intro n hn; exact if_pos hn
  · intro n hn; exact if_neg hn
 obtain ⟨τ',s1,s2,z1,z2,sw,sim⟩:=smk
 have hσlt: ∀ i n,σ i=some n→i<h.length:=by
  intro i n hi
  have:=(hh.live i n hi).2
  rcases Nat.lt_or_ge i h.length with hl | hl
  · exact hl
  · unfold hg at this
    rw [List.getD_eq_getElem?_getD,List.getElem?_eq_none hl] at this
    cases this
 have sub1:Sub σ1 τ':=by
  refine ⟨fun i n hi=> ?_,by rw [sw,hsub.2.1,tw],by rw [sim,hsub.2.2,tim]⟩
  have hc: ¬ (i<h.length∧eP K i=false):=by
   rintro ⟨a,b⟩
   rw [f1 i a b] at hi
   cases hi
  refine ⟨(s2 i hc).trans hi,?_⟩
  by_cases hn:n<w.heap.size
  · rw [z1 n hn]; exact (f3 i n hi hn).symm
  · exact z2 n hn
 have sub0:Sub σ τ':=by
  refine ⟨fun i n hi=> ?_,sw,sim⟩
  refine ⟨?_,z1 n (hh.live i n hi).1⟩
  cases hm:eP K i with
  | true=> rw [s2 i (fun e=> by rw [hm] at e; cases e.2)]; exact hsub.get ((t1 i hm).trans hi)
  | false=> rw [s1 i (hσlt i n hi) hm]; exact hi
 have hcase: ∀ i,(i<h.length∧eP K i=false∧τ' i=σ i∧hg (fK K 0 h hm) i=hg h i)∨(¬ (i<h.length∧eP K i=false)∧τ' i=σ1 i∧hg (fK K 0 h hm) i=hg hm i):=by
  intro i
  rw [vN K hlen]
  by_cases hi:i<h.length
  · cases hmem:eP K i with
    | true=>
      have hc: ¬ (i<h.length∧true=false):=fun e=> by cases e.2
      refine .inr ⟨hc,s2 i (by rw [hmem]; exact hc),?_⟩
      rw [if_pos hi]; rfl
    | false=>
      refine .inl ⟨hi,rfl,s1 i hi hmem,?_⟩
      rw [if_pos hi]; rfl
  · refine .inr ⟨fun e=> hi e.1,s2 i (fun e=> hi e.1),?_⟩
    rw [if_neg hi]
 refine ⟨τ',sub0,hv.mono sub1,⟨?_,?_,?_,?_,?_,?_⟩,⟨?_,?_,?_,?_,?_,?_⟩⟩
 · intro i b hb
   rcases hcase i with ⟨c1,c2,c3,c4⟩ | ⟨c1,c3,c4⟩
   · rw [c4] at hb
     rcases hh.blk i b hb with ⟨n,xs,g1,g2,g3⟩ | ⟨g1,g2⟩
     · exact .inl ⟨n,xs,c3.trans g1,g2.Nj (f4 i n c2 g1),g3.mono sub0⟩
     · exact .inr ⟨g1,c3.trans g2⟩
   · rw [c4] at hb
     rcases hh1.blk i b hb with ⟨n,xs,g1,g2,g3⟩ | ⟨g1,g2⟩
     · exact .inl ⟨n,xs,c3.trans g1,g2,g3.mono sub1⟩
     · exact .inr ⟨g1,c3.trans g2⟩
 · intro i j n _ hi hj
   rcases hcase i with ⟨c1,c2,c3,c4⟩ | ⟨c1,c3,c4⟩<;> rcases hcase j with ⟨d1,d2,d3,d4⟩ | ⟨d1,d3,d4⟩
   · rw [c3] at hi; rw [d3] at hj
     rcases hh.inj i j n (Nat.zero_le _) hi hj with e | e | e
     · exact .inl e
     · exact absurd e (hnd _)
     · exact absurd e (hnd _)
   · rw [c3] at hi; rw [d3] at hj
     exact (f2 i j n c2 hi hj).elim
   · rw [c3] at hi; rw [d3] at hj
     exact (f2 j i n d2 hj hi).elim
   · rw [c3] at hi; rw [d3] at hj
     rcases hh1.inj i j n (Nat.zero_le _) hi hj with e | ⟨e,hd⟩ | ⟨e,hd⟩
     · exact .inl e
     · exact .inr (.inl ⟨e,c4.trans hd⟩)
     · exact .inr (.inr ⟨e,d4.trans hd⟩)
 · intro i n hi
   rcases hcase i with ⟨c1,c2,c3,c4⟩ | ⟨c1,c3,c4⟩
   · rw [c3] at hi
     rw [c4]
     exact ⟨Nat.lt_of_lt_of_le (hh.live i n hi).1 hf1.size,(hh.live i n hi).2⟩
   · rw [c3] at hi
     rw [c4]
     exact hh1.live i n hi
 · intro i n hi
   rcases hcase i with ⟨c1,c2,c3,c4⟩ | ⟨c1,c3,c4⟩
   · rw [c3] at hi
     rw [f4 i n c2 hi,z1 n (hh.live i n hi).1]
     exact hh.siz i n hi
   · rw [c3] at hi
     rw [(sub1.1 i n hi).2]
     exact hh1.siz i n hi
 · intro i n _ hi
   rw [sim]
   rcases hcase i with ⟨c1,c2,c3,c4⟩ | ⟨c1,c3,c4⟩
   · rw [c3] at hi; exact hh.sep i n (Nat.zero_le _) hi
   · rw [c3] at hi
     have:=hh1.sep i n (Nat.zero_le _) hi
     rw [hsub.2.2,tim] at this
     exact this
 · intro n hn
   rw [sim] at hn
   rw [sw]
   have:=hh1.imm n (by rw [hsub.2.2,tim]; exact hn)
   rw [hsub.2.1,tw] at this
   exact this
 · exact hf1.os.trans hfr.os
 · exact hf1.tape.trans hfr.tape
 · exact hf1.output.trans hfr.output
 · exact Nat.le_trans hfr.size hf1.size
 · intro b hb hW
   rw [hf1.old b (Nat.lt_of_lt_of_le hb hfr.size) ?_,hfr.old b hb hW]
   rintro ⟨k,k1,k2⟩
   rcases hfr.own k b k2 (Nat.zero_le _) with e | e
   · exact hW e
   · omega
 · intro i b hi _
   rcases hcase i with ⟨c1,c2,c3,c4⟩ | ⟨c1,c3,c4⟩
   · rw [c3] at hi; exact hfr.own i b hi (Nat.zero_le _)
   · rw [c3] at hi
     rcases hf1.own i b hi (Nat.zero_le _) with ⟨k,k1,k2⟩ | e
     · exact hfr.own k b k2 (Nat.zero_le _)
     · exact .inr (Nat.le_trans hfr.size e)
end Vx

/-
  An executor of Go code on values of its own: what it says of one operation is so.
-/
namespace Vx
open Go Go.RowKit

section
variable {w0:World} {W:Nat→Prop} {cx:Cx} {σ:Sg} {w:World} {st st':St} {a:Act} {o:Oper} {id:Nat}

theorem gL.O6 (hr:gL w0 W cx.ro σ st a w) (d:Option Tmp) {v:V} {y:Value} (hv:aQ σ v y):
 gL w0 W cx.ro σ ⟨bR st.t d v,st.h⟩ (a.put d y) w where
 defers:=by cases d<;> exact hr.defers
 t:=hr.t.put d hv
 h:=hr.h
 fr:=hr.fr

theorem tJ.rep {bs:List bQ} {w':World} {σ':Sg} (hr:gL w0 W cx.ro σ st a w) (d:Option Tmp) {v:V} {y:Value} (hb:Below w.heap.size w w') (hv:aQ σ' v y)
 (hn:tJ id σ σ' w w' bs) (hav:bs≠ []→id<st.h.length∧hg st.h id=none):
 Sub σ σ'∧gL w0 W cx.ro σ' ⟨bR st.t d v,O4 st.h id bs⟩ (a.put d y) w':=by
 cases bs with
 | nil=>
   cases hn
   exact ⟨Sub.refl _,⟨by cases d<;> exact hr.defers,hr.t.put d hv,hr.h.below hb,hr.fr.below hb⟩⟩
 | cons b l=>
   cases l with
   | cons _ _=> exact hn.elim
   | nil=>
     obtain ⟨hlt,hnone⟩:=hav (by simp)
     have hh:=hr.h.below hb
     rcases hn with ⟨n,xs,h1,h2,rfl,h4,h5⟩ | ⟨rfl,ts,hts⟩
     · have hnew: ∀ i,σ i≠some n:=fun i hi=> by have:=(hr.h.live i n hi).1; omega
       have hsub:Sub σ (upd σ id n xs.length):=wJ (hr.h.fresh hnone) (fun i hi=> absurd hi (hnew i))
       refine ⟨hsub,⟨by cases d<;> exact hr.defers,(hr.t.mono hsub).put d hv,?_,?_⟩⟩
       · exact hh.gain hlt hnone h2 hnew (fun hi=> by have:=(hr.h.imm n hi).1; omega) h4 h5
       · refine (hr.fr.below hb).sub ?_
         intro i m hi
         by_cases h1':i=id
         · subst h1'
           rw [dZ] at hi
           cases hi
           exact .inr (Nat.le_trans hr.fr.size h1)
         · rw [upd_ne h1'] at hi
           exact .inl hi
     · obtain ⟨el,c⟩:=b
       have hts:c= .row ts []:=hts
       subst hts
       exact ⟨Sub.refl _,⟨by cases d<;> exact hr.defers,hr.t.put d hv,hh.xS hlt hnone,hr.fr.below hb⟩⟩

theorem adz {P:Program} {ρ:Operand→Value} {c:Call} {x:Operand} {f:FuncId} {ty:TypeId} (hc:c.callee= .value x) (hx:ρ x= .func (.func f) #[] #[]):
 (do let d ← resolve ρ c ty; invoke d.target d.args:Sem Next).run P w=(callFunc f (c.args.map ρ)).run P w:=by
 simp [resolve,hc,hx,Deferred.ofValue,invoke]

theorem Jg {ops:Array Oper} (hT:aD cx.P cx.tab) (hs:StepB cx ops.toList o id st st') (hr:gL w0 W cx.ro σ st a w)
 (hav:slots cx.P o.op=1→id<st.h.length∧hg st.h id=none) {next:Act→World→Prop} {Q:Exit→Act→World→Prop}
 (hnext: ∀ a' w' σ',Sub σ σ'→gL w0 W cx.ro σ' st' a' w'→next a' w'):
 if Region.wanted o (yielded ops a.tmps) then o.wp cx.P a w next Q∨(o.asks cx.P a w∧LetsOut Q) else next (a.put o.dst undef) w:=by
 cases hs with
 | skip hg=>
   rw [iE (cx:=cx) hg hr.t]
   simp only [Bool.false_eq_true,if_false]
   exact hnext _ _ σ (Sub.refl _) (hr.O6 o.dst (vX σ))
 | st hg he hv=>
   rw [iE (cx:=cx) hg hr.t]
   simp only [if_true]
   left
   rename_i s v
   have key: ∃ y,(execOp a.eval o).run cx.P w= .ok (.value y) w∧aQ σ v y:=by
    unfold oG at he
    split at he
    · cases he
      exact YX hv (eG hr.t)
    · obtain ⟨dst,op,type,pos,after,guard⟩:=o
      unfold yV at he
      split at he
      · cases he
        obtain ⟨y,hy,hvy⟩:=y9 (P:=cx.P) hv (eG hr.t _) hr.h
        refine ⟨y,?_,hvy⟩
        rename_i _ _ hop
        simp only at hop
        subst hop
        simp only [execOp,Sem.run_bind,hy,Result.andThen_ok,Sem.run_pure]
      · cases he
        obtain ⟨y,hy,hvy⟩:=KP (P:=cx.P) hv (eG hr.t _) hr.h
        refine ⟨y,?_,hvy⟩
        rename_i _ _ _ hop
        simp only at hop
        subst hop
        simp only [execOp,Sem.run_bind,hy,Result.andThen_ok,Sem.run_pure]
      · cases he
    · unfold Es at he
      split at he
      · split at he<;> cases he
      · cases he
    · unfold Hd at he
      split at he<;> cases he
    · unfold He at he
      split at he
      · unfold jK at he
        (repeat' split at he)<;> cases he
      · cases he
    · unfold Ku at he
      split at he
      · split at he<;> cases he
      · split at he<;> cases he
      · cases he
   obtain ⟨y,hy,hvy⟩:=key
   unfold Oper.wp
   rw [hy,Oper.upon_value]
   exact hnext _ _ σ (Sub.refl _) (hr.O6 o.dst hvy)
 | wr hg he ht=>
   rw [iE (cx:=cx) hg hr.t]
   simp only [if_true]
   left
   rename_i chk i b
   have key: ∃ n cs,(execOp a.eval o).run cx.P w= .ok .skip (w.setRow n cs)∧σ i=some n∧cx.ro≤i∧bT cx.ro σ (st.h.set i (some b)) (w.setRow n cs):=by
    unfold oG at he
    split at he
    · cases he
    · unfold yV at he
      split at he<;> cases he
    · obtain ⟨dst,op,type,pos,after,guard⟩:=o
      unfold Es at he
      split at he
      · split at he
        · rename_i _ _ _ hop _ _ _ _ hes
          cases he
          obtain ⟨n,cs,h1,h2,h3,h4⟩:=HV hes ht (eG hr.t _) (eG hr.t _) hr.h
          simp only at hop
          subst hop
          exact ⟨n,cs,by simp only [execOp,Sem.run_bind,h1,Result.andThen_ok,Sem.run_pure],h2,h3,h4⟩
        · cases he
      · cases he
    · unfold Hd at he
      split at he<;> cases he
    · unfold He at he
      split at he
      · unfold jK at he
        (repeat' split at he)<;> cases he
      · cases he
    · unfold Ku at he
      split at he
      · split at he<;> cases he
      · split at he<;> cases he
      · cases he
   obtain ⟨n,cs,h1,h2,h3,h4⟩:=key
   unfold Oper.wp
   rw [h1,Oper.upon_skip]
   refine hnext _ _ σ (Sub.refl _) ⟨?_,hr.t.put o.dst (vX σ),h4,hr.fr.setRow cs h2 h3⟩
   cases o.dst<;> exact hr.defers
 | nw hg he ht=>
   rw [iE (cx:=cx) hg hr.t]
   simp only [if_true]
   left
   rename_i chk v bs
   unfold oG at he
   split at he
   · cases he
   · unfold yV at he
     split at he<;> cases he
   · unfold Es at he
     split at he
     · split at he<;> cases he
     · cases he
   · rename_i hcls
     unfold Hd at he
     split at he
     · rename_i chk' v' b hea
       cases he
       have hslot:slots cx.P o.op=1:=by unfold slots; rw [hcls]
       obtain ⟨hlt,hnone⟩:=hav hslot
       obtain ⟨y,xs,w1,h1,hnw,h2,h3⟩:=Hm (P:=cx.P) (w:=w) (σ:=σ) (ρ:=a.eval) hea ht (eG hr.t)
       have hsub:Sub σ (upd σ id w.heap.size xs.length):=wJ (hr.h.fresh hnone) (fun i hi=> by have:=(hr.h.live i _ hi).1; omega)
       unfold Oper.wp
       rw [h1,Oper.upon_value]
       refine hnext _ _ _ hsub ⟨?_,(hr.t.mono hsub).put o.dst h3,hr.h.Kb hnw hlt hnone h2,hr.fr.Kb hnw id _⟩
       cases o.dst<;> exact hr.defers
     · cases he
   · rename_i hcls
     have hslot:slots cx.P o.op=1:=by unfold slots; rw [hcls]
     obtain ⟨hlt,hnone⟩:=hav hslot
     unfold He at he
     split at he
     · rename_i c hop
       unfold jK at he
       split at he
       · rename_i f hf
         split at he
         · rename_i sp hsp
           split at he
           · rename_i as has
             split at he
             · rename_i chk' v' bs' hspe
               have hbs:chk'=chk∧v'=v∧bs'=bs:=by
                split at he
                · cases he; exact ⟨rfl,rfl,rfl⟩
                · cases he; exact ⟨rfl,rfl,rfl⟩
                · cases he
               obtain ⟨rfl,rfl,rfl⟩:=hbs
               clear he
               have hcall:=hT f sp hsp id as _ _ _ hspe ht _ σ st.h w _ _ hr.h has (vD hr.t c.args.toList) (hr.h.fresh hnone)
               have hcx: ∃ x,c.callee= .value x∧fo st.t x= .one (.fn f):=by
                unfold callee at hf
                split at hf
                · rename_i x hcc
                  split at hf
                  · rename_i f' hfx
                    cases hf
                    exact ⟨x,hcc,hfx⟩
                  · cases hf
                · cases hf
               obtain ⟨x,hcc,hfx⟩:=hcx
               have hvx:=eG hr.t x
               rw [hfx] at hvx
               obtain ⟨_,hvf⟩:=hvx
               have hval:a.eval x= .func (.func f) #[] #[]:=(List.cons.inj hvf).1
               have hrun:(execOp a.eval o).run cx.P w=(callFunc f (c.args.map a.eval)).run cx.P w:=by
                rw [← adz (ty:=o.type) hcc hval]
                unfold execOp
                rw [hop]
               have harr:(c.args.toList.map a.eval).toArray=c.args.map a.eval:=by
                apply Array.ext'; simp
               rw [harr] at hcall
               have fin: ∀ y w',(∃ σ',Below w.heap.size w w'∧aQ σ' v' y∧tJ id σ σ' w w' bs')→next (a.put o.dst y) w':=by
                rintro y w' ⟨σ',hb,hv,hn⟩
                obtain ⟨h1,h2⟩:=tJ.rep (a:=a) hr o.dst hb hv hn (fun _=> ⟨hlt,hnone⟩)
                exact hnext _ _ _ h1 h2
               unfold Oper.wp
               rw [hrun]
               unfold iD at hcall
               split at hcall
               · rename_i g args w' hrn
                 rw [hrn,Oper.upon_enter]
                 refine hcall.mono ?_
                 intro e w'' he
                 cases e with
                 | returned y=> exact fin y w'' he
                 | panicked _=> exact he.elim
                 | outgrown=> exact he.elim
               · rename_i y w' hrn
                 rw [hrn,Oper.upon_value]
                 exact fin y w' hcall
               · exact hcall.elim
             · cases he
           · cases he
         · cases he
       · cases he
     · cases he
   · unfold Ku at he
     split at he
     · split at he<;> cases he
     · split at he<;> cases he
     · cases he
 | mv hg he ht=>
   rw [iE (cx:=cx) hg hr.t]
   simp only [if_true]
   left
   rename_i chk v us
   unfold oG at he
   split at he
   · cases he
   · unfold yV at he
     split at he<;> cases he
   · unfold Es at he
     split at he
     · split at he<;> cases he
     · cases he
   · unfold Hd at he
     split at he<;> cases he
   · unfold He at he
     split at he
     · unfold jK at he
       (repeat' split at he)<;> cases he
     · cases he
   · rename_i hcls
     have hslot:slots cx.P o.op=1:=by unfold slots; rw [hcls]
     obtain ⟨hlt,hnone⟩:=hav hslot
     unfold Ku at he
     split at he
     · rename_i c hop
       split at he
       · rename_i chk' v' us' hea
         cases he
         have hrun: ∃ r:Result Value,tH cx.P cx.ro σ w (dE st.h us) v r∧ ∀ y w',r= .ok y w'→(execOp a.eval o).run cx.P w= .ok (.value y) w':=by
          unfold Ny at hea
          split at hea
          · rename_i hcal
            refine ⟨_,Nu (P:=cx.P) (ty:=o.type) hea ht (eG hr.t) hr.h hlt hnone,fun y w' hrun=> ?_⟩
            obtain ⟨cl,args,ats⟩:=c
            simp only at hcal
            subst hcal
            unfold execOp
            rw [hop]
            simp only [resolve,invoke,Sem.run_bind,Sem.run_pure,Result.andThen_ok,Go.builtin]
            simp [hrun]
          · rename_i hcal
            refine ⟨_,Ht (P:=cx.P) (ty:=o.type) hea ht (eG hr.t) hr.h,fun y w' hrun=> ?_⟩
            obtain ⟨cl,args,ats⟩:=c
            simp only at hcal
            subst hcal
            unfold execOp
            rw [hop]
            simp only [resolve,invoke,Sem.run_bind,Sem.run_pure,Result.andThen_ok,Go.builtin]
            simp [hrun]
          · cases hea
         obtain ⟨r,hap,hrun⟩:=hrun
         obtain ⟨y,w',σ',hr1,hsub,hvy,hh',row,hgr,hrow,hown⟩:=hap.ok
         have hrun':=hrun y w' hr1
         unfold Oper.wp
         rw [hrun',Oper.upon_value]
         refine hnext _ _ σ' hsub ⟨?_,(hr.t.mono hsub).put o.dst hvy,hh',hr.fr.grown hgr hrow hown⟩
         cases o.dst<;> exact hr.defers
       · cases he
     · rename_i s d x hop
       split at he
       · rename_i chk' v' us' hea
         cases he
         have hap:=RQ (P:=cx.P) (w:=w) hea (eG hr.t x) hr.h
         obtain ⟨y,w',σ',hr1,hsub,hvy,hh',row,hgr,hrow,hown⟩:=hap.ok
         have hrun':(execOp a.eval o).run cx.P w= .ok (.value y) w':=by
          unfold execOp
          rw [hop]
          simp [hr1]
         unfold Oper.wp
         rw [hrun',Oper.upon_value]
         refine hnext _ _ σ' hsub ⟨?_,(hr.t.mono hsub).put o.dst hvy,hh',hr.fr.grown hgr hrow hown⟩
         cases o.dst<;> exact hr.defers
       · cases he
     · cases he

def JOk (J:JT) (cx:Cx) (w0:World) (W:Nat→Prop):Prop:=
 ∀ f as h v h',J f as h v h'→ ∀ (σ:Sg) (w:World) (vals:List Value),bT cx.ro σ h w→Fr w0 W cx.ro σ w→eD (aQ σ) as vals→
   iD cx.P f vals.toArray w fun x w'=> ∃ σ',Sub σ σ'∧aQ σ' v x∧bT cx.ro σ' h' w'∧Fr w0 W cx.ro σ' w'

theorem eD.append {α β:Type} {R:α→β→Prop}: ∀ {l:List α} {m:List β} {l':List α} {m':List β},eD R l m→eD R l' m'→eD R (l++l') (m++m')
 | _,_,_,_, .nil,h=> h
 | _,_,_,_, .cons a b,h=> .cons a (b.append h)

theorem Jq {P:Program} {ρ:Operand→Value} {c:Call} {x:Operand} {f:FuncId} {ty:TypeId} {caps:Array Value} (hc:c.callee= .value x) (hx:ρ x= .func (.func f) #[] caps):
 (do let d ← resolve ρ c ty; invoke d.target d.args:Sem Next).run P w=(callFunc f (c.args.map ρ++caps)).run P w:=by
 simp [resolve,hc,hx,Deferred.ofValue,invoke]

theorem Ec {σ:Sg}: ∀ {caps:List (Nat × Nat)} {vals:List Value},eD (fun (p:Nat × Nat) v=> ∃ b,σ p.1=some b∧v=Value.pointer (some ⟨b,p.2,none⟩)) caps vals→
 eD (aQ σ) (caps.map fun p=> V.one (.ptr p.1 p.2)) vals
 | _,_, .nil=> .nil
 | _,_, .cons ⟨b,hb,e⟩ h=> .cons (by rw [e]; exact ⟨rfl,b,hb,rfl⟩) (Ec h)

theorem OO {J:JT} {ops:Array Oper} (hT:aD cx.P cx.tab) (hJ: ∀ w0 W,JOk J cx w0 W) (hs:kg J cx ops.toList o id st st') (hr:gL w0 W cx.ro σ st a w)
 (hav:slots cx.P o.op=1→id<st.h.length∧hg st.h id=none) {next:Act→World→Prop} {Q:Exit→Act→World→Prop}
 (hnext: ∀ a' w' σ',Sub σ σ'→gL w0 W cx.ro σ' st' a' w'→next a' w'):
 if Region.wanted o (yielded ops a.tmps) then o.wp cx.P a w next Q∨(o.asks cx.P a w∧LetsOut Q) else next (a.put o.dst undef) w:=by
 cases hs with
 | base _ hb=> exact Jg hT hb hr hav hnext
 | skip hg=> exact Jg hT (.skip hg) hr hav hnext
 | il hg hil hx hj hkeep=>
   rename_i f as v h
   rw [iE (cx:=cx) hg hr.t]
   simp only [if_true]
   left
   obtain ⟨c,x,caps,vals,hop,hcc,hval,has,hvals⟩: ∃ (c:Call) (x:Operand) (caps:List (Nat × Nat)) (vals:List Value),o.op= .call c∧c.callee= .value x∧a.eval x= .func (.func f) #[] vals.toArray∧
    as=c.args.toList.map (fo st.t)++caps.map (fun p=> .one (.ptr p.1 p.2))∧eD (aQ σ) (caps.map fun p=> V.one (.ptr p.1 p.2)) vals:=by
    unfold fu at hil
    split at hil
    · rename_i c hop
      split at hil
      · rename_i f' caps hcl
        split at hil
        · cases hil
          unfold CU at hcl
          split at hcl
          · rename_i x hcc
            have hvx:=eG hr.t x
            split at hcl
            · rename_i g hfx
              cases hcl
              rw [hfx] at hvx
              obtain ⟨_,hvf⟩:=hvx
              exact ⟨c,x,[],[],hop,hcc,(List.cons.inj hvf).1,rfl, .nil⟩
            · rename_i g cs hfx
              cases hcl
              rw [hfx] at hvx
              obtain ⟨_,vals,hvf,hall⟩:=hvx
              exact ⟨c,x,_,vals,hop,hcc,(List.cons.inj hvf).1,rfl,Ec hall⟩
            · cases hcl
          · cases hcl
        · cases hil
      · cases hil
    · cases hil
   have hcall:=hJ _ _ _ _ _ _ _ hj σ w (c.args.toList.map a.eval++vals) hr.h hr.fr (by rw [has]; exact (vD hr.t c.args.toList).append hvals)
   have hrun:(execOp a.eval o).run cx.P w=(callFunc f (c.args.map a.eval++vals.toArray)).run cx.P w:=by
    rw [← Jq (ty:=o.type) hcc hval]
    unfold execOp
    rw [hop]
   have harr:(c.args.toList.map a.eval++vals).toArray=c.args.map a.eval++vals.toArray:=by
    apply Array.ext'; simp
   rw [harr] at hcall
   have fin: ∀ y w',(∃ σ',Sub σ σ'∧aQ σ' v y∧bT cx.ro σ' h w'∧Fr w0 W cx.ro σ' w')→next (a.put o.dst y) w':=by
    rintro y w' ⟨σ',hb,hv,hh,hf⟩
    refine hnext _ _ σ' hb ⟨?_,(hr.t.mono hb).put o.dst hv,hh,hf⟩
    cases o.dst<;> exact hr.defers
   unfold Oper.wp
   rw [hrun]
   unfold iD at hcall
   split at hcall
   · rename_i g args w' hrn
     rw [hrn,Oper.upon_enter]
     refine hcall.mono ?_
     intro e w'' he
     cases e with
     | returned y=> exact fin y w'' he
     | panicked _=> exact he.elim
     | outgrown=> exact he.elim
   · rename_i y w' hrn
     rw [hrn,Oper.upon_value]
     exact fin y w' hcall
   · exact hcall.elim
 | ilx hg hil hx hcx hj hkeep=>
   rename_i f as v h
   rw [iE (cx:=cx) hg hr.t]
   simp only [if_true]
   left
   obtain ⟨c,x,caps,vals,hop,hcc,hval,has,hvals⟩: ∃ (c:Call) (x:Operand) (caps:List (Nat × Nat)) (vals:List Value),o.op= .call c∧c.callee= .value x∧a.eval x= .func (.func f) #[] vals.toArray∧
    as=c.args.toList.map (fo st.t)++caps.map (fun p=> .one (.ptr p.1 p.2))∧eD (aQ σ) (caps.map fun p=> V.one (.ptr p.1 p.2)) vals:=by
    unfold fu at hil
    split at hil
    · rename_i c hop
      split at hil
      · rename_i f' caps hcl
        split at hil
        · cases hil
          unfold CU at hcl
          split at hcl
          · rename_i x hcc
            have hvx:=eG hr.t x
            split at hcl
            · rename_i g hfx
              cases hcl
              rw [hfx] at hvx
              obtain ⟨_,hvf⟩:=hvx
              exact ⟨c,x,[],[],hop,hcc,(List.cons.inj hvf).1,rfl, .nil⟩
            · rename_i g cs hfx
              cases hcl
              rw [hfx] at hvx
              obtain ⟨_,vals,hvf,hall⟩:=hvx
              exact ⟨c,x,_,vals,hop,hcc,(List.cons.inj hvf).1,rfl,Ec hall⟩
            · cases hcl
          · cases hcl
        · cases hil
      · cases hil
    · cases hil
   have hcall:=Zo (P:=cx.P) (f:=f) (v:=v) (vals:=c.args.toList.map a.eval++vals) hcx hkeep hr.h hr.fr (by rw [has]; exact (vD hr.t c.args.toList).append hvals) (fun W1 τ g1 g2 g3=> hJ _ _ _ _ _ _ _ hj τ w _ g1 g2 g3)
   have hrun:(execOp a.eval o).run cx.P w=(callFunc f (c.args.map a.eval++vals.toArray)).run cx.P w:=by
    rw [← Jq (ty:=o.type) hcc hval]
    unfold execOp
    rw [hop]
   have harr:(c.args.toList.map a.eval++vals).toArray=c.args.map a.eval++vals.toArray:=by
    apply Array.ext'; simp
   rw [harr] at hcall
   have fin: ∀ y w',(∃ σ',Sub σ σ'∧aQ σ' v y∧bT cx.ro σ' (fK (bz (Vx.hg st.h) as) 0 st.h h) w'∧Fr w0 W cx.ro σ' w')→next (a.put o.dst y) w':=by
    rintro y w' ⟨σ',hb,hv,hh,hf⟩
    refine hnext _ _ σ' hb ⟨?_,(hr.t.mono hb).put o.dst hv,hh,hf⟩
    cases o.dst<;> exact hr.defers
   unfold Oper.wp
   rw [hrun]
   unfold iD at hcall
   split at hcall
   · rename_i g args w' hrn
     rw [hrn,Oper.upon_enter]
     refine hcall.mono ?_
     intro e w'' he
     cases e with
     | returned y=> exact fin y w'' he
     | panicked _=> exact he.elim
     | outgrown=> exact he.elim
   · rename_i y w' hrn
     rw [hrn,Oper.upon_value]
     exact fin y w' hcall
   · exact hcall.elim
end
end Vx

/-
  An executor of Go code on values of its own: a region in the order of its text.
-/
namespace Vx
open Go Go.RowKit

def Out.good:Out→Prop
 | .done _ _=> True
 | .fail _=> False

def xk (P:Program) (base:Nat) (all:List Oper) (i:Nat):Nat:=base+gI P (all.take i)

def J6 (cx:Cx) (all:List Oper) (st:St) (o:Oper):Prop:=bO all o st.t=some true∧ ∃ r,fu cx (fo st.t) o.op=some r
def pI (cx:Cx) (all:List Oper) (st:St) (o:Oper) (A:List Nat):Prop:=J6 cx all st o→nX∈A∨(mV∈A∧ ∀ f as,fu cx (fo st.t) o.op=some (f,as)→cx.ex f=true∧ ∀ k∈bz (hg st.h) as,k∈A)

def mO (cx:Cx) (all:List Oper) (st:St) (o:Oper) (A:List Nat):Prop:=bO all o st.t=some true→fu cx (fo st.t) o.op=none→eU cx.P (fo st.t) (hg st.h) o.op=true→
 nX∈A∨(zq∈A∧ ∀ k∈eB cx.P (fo st.t) (hg st.h) o.op,k∈A∧hg st.h k≠none)

inductive BL (J:JT) (cx:Cx) (all:List Oper) (base:Nat) (tr:List (List Nat)):List Nat→St→St→Prop where
 | nil {st:St}:BL J cx all base tr [] st st
 | cons {i:Nat} {o:Oper} {rest:List Nat} {st s1 st':St}:all[i]? =some o→(∀ x∈looks cx.P o.op, ∀ k,fE (fo st.t x)=some k→k∈tr.getD i [])→pI cx all st o (tr.getD i [])→mO cx all st o (tr.getD i [])→
  kg J cx all o (xk cx.P base all i) st s1→BL J cx all base tr rest s1 st'→BL J cx all base tr (i::rest) st st'

def BK (P:Program) (all:List Oper) (base:Nat) (rem:List Nat) (h:Hp):Prop:=
 ∀ i o,i∈rem→all[i]? =some o→slots P o.op=1→xk P base all i<h.length∧hg h (xk P base all i)=none

section
variable {P:Program}

theorem pU: ∀ (a b:List Oper),gI P (a++b)=gI P a+gI P b
 | [],b=> by simp [gI]
 | o::a,b=> by simp only [List.cons_append,gI,pU a b]; omega

theorem zg {all:List Oper} {i:Nat} {o:Oper} (base:Nat) (h:all[i]? =some o):xk P base all (i+1)=xk P base all i+slots P o.op:=by
 unfold xk
 obtain ⟨hlt,rfl⟩:=List.getElem?_eq_some_iff.1 h
 rw [List.take_succ_eq_append_getElem hlt,pU]
 simp [gI]; omega

theorem lT (all:List Oper): ∀ {i j:Nat},i≤j→gI P (all.take i)≤gI P (all.take j):=by
 intro i j h
 have:all.take j=all.take i++(all.drop i).take (j - i):=by
  rw [← List.take_add]; congr 1; omega
 rw [this,pU]; omega

theorem R7 {all:List Oper} {base i j:Nat} {o q:Oper} (hi:all[i]? =some o) (hj:all[j]? =some q) (h1:slots P o.op=1) (h2:slots P q.op=1) (hne:i≠j):
 xk P base all i≠xk P base all j:=by
 rcases Nat.lt_or_gt_of_ne hne with h | h
 · have e:=zg (P:=P) base hi
   have:=lT (P:=P) all (show i+1≤j by omega)
   unfold xk at*; omega
 · have e:=zg (P:=P) base hj
   have:=lT (P:=P) all (show j+1≤i by omega)
   unfold xk at*; omega

end

theorem fV {chk:List Bool} {k out:Out} (h:aS chk k=out) (hg:out.good):allT chk∧k=out:=by
 induction chk with
 | nil=> exact ⟨fun _ h=> by simp at h,h⟩
 | cons b l ih=>
   simp only [aS] at h
   cases b with
   | false=> simp only [cond_false] at h; subst h; exact hg.elim
   | true=>
     simp only [cond_true] at h
     obtain ⟨h1,h2⟩:=ih h
     exact ⟨fun c hc=> by rcases List.mem_cons.1 hc with rfl | hc; rfl; exact h1 c hc,h2⟩

theorem ZX {cx:Cx} {all:List Oper} {o:Oper} {id:Nat} {st:St} {κ:St→Out} {out:Out} (h:Tk cx o id st κ=out) (hg:out.good)
 (hgd:bO all o st.t=some true): ∃ st',StepB cx all o id st st'∧κ st'=out:=by
 unfold Tk at h
 split at h
 · rename_i chk v he
   obtain ⟨h1,h2⟩:=fV h hg
   exact ⟨_, .st hgd he (.val h1),h2⟩
 · rename_i chk b v w he
   obtain ⟨h1,h2⟩:=fV h hg
   cases b with
   | true=> exact ⟨_, .st hgd he (.brT h1),h2⟩
   | false=> exact ⟨_, .st hgd he (.brF h1),h2⟩
 · rename_i chk i b he
   obtain ⟨h1,h2⟩:=fV h hg
   exact ⟨_, .wr hgd he h1,h2⟩
 · rename_i chk v bs he
   obtain ⟨h1,h2⟩:=fV h hg
   exact ⟨_, .nw hgd he h1,h2⟩
 · rename_i chk v us he
   obtain ⟨h1,h2⟩:=fV h hg
   exact ⟨_, .mv hgd he h1,h2⟩
 · subst h; exact hg.elim

def afu (J:JT) (I:IL) (out:Out):Prop:= ∀ f as h κ,I f as h κ=out→ ∃ v h',J f as h v h'∧κ v h'=out

theorem TE {J:JT} {I:IL} {cx:Cx} {all:List Oper} {o:Oper} {id:Nat} {st:St} {κ:St→Out} {out:Out} (hI:afu J I out) (h:xx cx I o id st κ=out) (hg:out.good)
 (hgd:bO all o st.t=some true): ∃ st',kg J cx all o id st st'∧κ st'=out:=by
 unfold xx at h
 split at h
 · rename_i f as hil
   split at h
   · rename_i hx
     obtain ⟨v,h',hj,hk⟩:=hI _ _ _ _ h
     split at hk
     · rename_i hkeep
       exact ⟨_, .il hgd hil hx hj hkeep,hk⟩
     · subst hk; exact hg.elim
   · rename_i hx
     split at h
     · rename_i hcl
       obtain ⟨v,h',hj,hk⟩:=hI _ _ _ _ h
       split at hk
       · rename_i hkeep
         exact ⟨_, .ilx hgd hil hx hcl hj hkeep,hk⟩
       · subst hk; exact hg.elim
     · subst h; exact hg.elim
 · rename_i hil
   obtain ⟨st',h1,h2⟩:=ZX h hg hgd
   exact ⟨st', .base hil h1,h2⟩

theorem abU {g:Nat→Option bQ} {k:Nat} (h:Ob g k=true):g k≠none:=by
 intro e
 unfold Ob at h
 rw [e] at h
 cases h

theorem nM {cx:Cx} {all:List Oper} {st:St} {o:Oper}:(∀ x∈looks cx.P o.op, ∀ k,fE (fo st.t x)=some k→k∈mJ cx st o)∧pI cx all st o (mJ cx st o)∧mO cx all st o (mJ cx st o):=by
 have hu: ∀ x∈looks cx.P o.op, ∀ k,fE (fo st.t x)=some k→k∈yB cx.P st.t o:=fun x hx _ hk=> List.mem_filterMap.2 ⟨x,hx,hk⟩
 unfold mJ
 split
 · rename_i f as hil
   refine ⟨?_,fun _=> ?_,fun _ hn _=> ?_⟩
   · intro x hx k hk
     cases cx.ex f with
     | true=> exact List.mem_cons_of_mem _ (List.mem_append.2 (.inr (hu x hx k hk)))
     | false=> exact List.mem_cons_of_mem _ (hu x hx k hk)
   · cases hx:cx.ex f with
     | true=> exact .inr ⟨List.mem_cons_self,fun g bs e=> by rw [hil] at e; cases e; exact ⟨hx,fun k hk=> List.mem_cons_of_mem _ (List.mem_append.2 (.inl hk))⟩⟩
     | false=> exact .inl List.mem_cons_self
   · rw [hil] at hn; cases hn
 · rename_i hn
   have hnm: ∀ {p:Prop},J6 cx all st o→p:=fun h=> by
    obtain ⟨_,r,hr⟩:=h
    rw [hn] at hr; cases hr
   cases hnest:eU cx.P (fo st.t) (hg st.h) o.op with
   | true=>
     simp only [cond_true]
     cases hlv:(eB cx.P (fo st.t) (hg st.h) o.op).all (Ob (hg st.h)) with
     | true=>
       simp only [cond_true]
       exact ⟨fun x hx k hk=> List.mem_cons_of_mem _ (List.mem_append.2 (.inr (hu x hx k hk))),fun h=> hnm h,fun _ _ _=> .inr ⟨List.mem_cons_self,fun k hk=> ⟨List.mem_cons_of_mem _ (List.mem_append.2 (.inl hk)),abU (List.all_eq_true.1 hlv k hk)⟩⟩⟩
     | false=>
       simp only [cond_false]
       exact ⟨fun x hx k hk=> List.mem_cons_of_mem _ (hu x hx k hk),fun _=> .inl List.mem_cons_self,fun _ _ _=> .inl List.mem_cons_self⟩
   | false=>
     simp only [cond_false]
     exact ⟨hu,fun h=> hnm h,fun _ _ h=> by rw [hnest] at h; cases h⟩

theorem uk {J:JT} {I:IL} {cx:Cx} {all:List Oper} {base:Nat} {κ:List (List Nat)→St→Out} {out:Out} (hg:out.good) (hI:afu J I out): ∀ (l:List Oper) (k:Nat) (st:St) (tr:List (List Nat)),all.drop k=l→tr.length=k→
 pM cx I all l (xk cx.P base all k) st tr κ=out→ ∃ st' tr',BL J cx all base tr' (List.range' k l.length) st st'∧κ tr' st'=out∧tr<+:tr'
 | [],k,st,tr,_,_,h=> ⟨st,tr, .nil,h,List.prefix_refl _⟩
 | o::r,k,st,tr,hd,hl,h=> by
   have hk:all[k]? =some o:=by
    have:(all.drop k)[0]? =some o:=by rw [hd]; rfl
    simpa using this
   have hd':all.drop (k+1)=r:=by
    rw [← List.drop_drop,hd]; rfl
   have hid:=zg (P:=cx.P) base hk
   have hl':(tr++ [mJ cx st o]).length=k+1:=by simp [hl]
   have hget: ∀ tr',tr++ [mJ cx st o]<+:tr'→tr'.getD k []=mJ cx st o:=by
    rintro tr' ⟨s,rfl⟩
    subst hl
    simp [List.getD_eq_getElem?_getD]
   simp only [pM] at h
   split at h
   · rename_i g hgd
     cases g with
     | true=>
       simp only [cond_true] at h
       obtain ⟨s1,hs,h1⟩:=TE hI h hg hgd
       rw [← hid] at h1
       obtain ⟨st',tr',hc,h2,h3⟩:=uk hg hI r (k+1) s1 _ hd' hl' h1
       exact ⟨st',tr', .cons hk (by rw [hget tr' h3]; exact (nM (all:=all)).1) (by rw [hget tr' h3]; exact nM.2.1) (by rw [hget tr' h3]; exact nM.2.2) hs hc,h2,(List.prefix_append _ _).trans h3⟩
     | false=>
       simp only [cond_false] at h
       rw [← hid] at h
       obtain ⟨st',tr',hc,h2,h3⟩:=uk hg hI r (k+1) _ _ hd' hl' h
       exact ⟨st',tr', .cons hk (by rw [hget tr' h3]; exact (nM (all:=all)).1) (by rw [hget tr' h3]; exact nM.2.1) (by rw [hget tr' h3]; exact nM.2.2) (.skip hgd) hc,h2,(List.prefix_append _ _).trans h3⟩
   · subst h; exact hg.elim

theorem rM {P:Program} {ro:Nat} {t:TypeId} {a v:V} {g:Nat→Option bQ} {chk:List Bool} {id:Nat} {b:bQ} (h:kM P ro t a v g=some (chk,id,b)):
 fE a=some id∧ ∃ b',g id=some b':=by
 unfold kM at h
 split at h
 · split at h
   · rename_i i off
     split at h
     · rename_i b0 hb _
       (repeat' split at h)<;> first | (cases h; done) | (cases h; exact ⟨rfl,_,hb⟩)
     · cases h
   · rename_i i z j r
     split at h
     · rename_i b0 hb _
       (repeat' split at h)<;> first | (cases h; done) | (cases h; exact ⟨rfl,_,hb⟩)
     · cases h
   · cases h
 · cases h

theorem RG {cx:Cx} {op:Op} {e:Operand→V} {g:Nat→Option bQ} {id i:Nat} {chk:List Bool} {b:bQ} (h:oG cx op e g id= .wr chk i b):
 cls cx.P op= .w∧ ∃ t a v,op= .store t a v∧kM cx.P cx.ro t (e a) (e v) g=some (chk,i,b):=by
 unfold oG at h
 split at h
 · cases h
 · unfold yV at h
   split at h<;> cases h
 · rename_i hc
   refine ⟨hc,?_⟩
   unfold Es at h
   split at h
   · split at h
     · rename_i hes
       cases h
       exact ⟨_,_,_,rfl,hes⟩
     · cases h
   · cases h
 · unfold Hd at h
   split at h<;> cases h
 · unfold He at h
   split at h
   · unfold jK at h
     (repeat' split at h)<;> cases h
   · cases h
 · unfold Ku at h
   split at h
   · split at h<;> cases h
   · split at h<;> cases h
   · cases h

theorem Kv {cx:Cx} {op:Op} {e:Operand→V} {g:Nat→Option bQ} {id:Nat} {chk:List Bool} {v:V} {us:List (Nat × bQ)} (h:oG cx op e g id= .mv chk v us):
 cls cx.P op= .m∧((∃ c,op= .call c∧Ny cx.rw cx.P cx.ro c e g id=some (chk,v,us))∨ ∃ s d x,op= .convert s d x∧YY cx.P cx.ro s d (e x) g=some (chk,v,us)):=by
 unfold oG at h
 split at h
 · cases h
 · unfold yV at h
   split at h<;> cases h
 · unfold Es at h
   split at h
   · split at h<;> cases h
   · cases h
 · unfold Hd at h
   split at h<;> cases h
 · unfold He at h
   split at h
   · unfold jK at h
     (repeat' split at h)<;> cases h
   · cases h
 · rename_i hc
   refine ⟨hc,?_⟩
   unfold Ku at h
   split at h
   · split at h
     · cases h
       exact .inl ⟨_,rfl,by assumption⟩
     · cases h
   · split at h
     · cases h
       exact .inr ⟨_,_,_,rfl,by assumption⟩
     · cases h
   · cases h

theorem YZ {P:Program} {ro:Nat} {s d:TypeId} {x:V} {g:Nat→Option bQ} {chk:List Bool} {v:V} {us:List (Nat × bQ)} (h:YY P ro s d x g=some (chk,v,us)):
 ∀ p∈us,g p.1≠none:=by
 unfold YY at h
 (repeat' split at h)<;> first | (cases h; done) | skip
 all_goals (cases h; intro p hp; simp only [List.mem_cons,List.not_mem_nil,or_false] at hp; subst hp; simp_all)

theorem RI {P:Program} {ro:Nat} {c:Call} {e:Operand→V} {g:Nat→Option bQ} {id:Nat} {chk:List Bool} {v:V} {us:List (Nat × bQ)} (h:BU P ro c e g id=some (chk,v,us)):
 ∀ p∈us,p.1=id∨g p.1≠none:=by
 unfold BU at h
 (repeat' split at h)<;> first | (cases h; done) | skip
 all_goals (cases h; intro p hp; simp only [List.mem_cons,List.not_mem_nil,or_false] at hp)
 · subst hp; exact .inl rfl
 · rcases hp with rfl | rfl
   · right; simp only; simp_all
   · exact .inl rfl
 · rcases hp with rfl | rfl
   · right; simp only; simp_all
   · exact .inl rfl

theorem YV {rw:Bool} {P:Program} {ro:Nat} {c:Call} {e:Operand→V} {g:Nat→Option bQ} {id:Nat} {chk:List Bool} {v:V} {us:List (Nat × bQ)} (h:Ny rw P ro c e g id=some (chk,v,us)):
 ∀ p∈us,p.1=id∨g p.1≠none:=by
 unfold Ny at h
 split at h
 · exact RI h
 · have hC:ni P ro c e g=some (chk,v,us)→ ∀ p∈us,p.1=id∨g p.1≠none:=by
    intro h
    unfold ni at h
    split at h
    · rename_i r hr
      cases h
      unfold xL at hr
      (repeat' split at hr)<;> first | (cases hr; done) | skip
      all_goals (cases hr; intro p hp; simp only [List.mem_cons,List.not_mem_nil,or_false] at hp)
      subst hp
      right; simp only; simp_all
    · unfold rG at h
      (repeat' split at h)<;> first | (cases h; done) | skip
      all_goals (cases h; intro p hp; simp only [List.mem_cons,List.not_mem_nil,or_false] at hp)
      subst hp
      right; simp only; simp_all
   unfold y5 at h
   split at h
   · split at h
     · rename_i r hr
       cases h
       unfold rH at hr
       (repeat' split at hr)<;> first | (cases hr; done) | skip
       all_goals (cases hr; intro p hp; simp only [List.mem_cons,List.not_mem_nil,or_false] at hp)
       subst hp
       right; simp only; simp_all
     · exact hC h
   · exact hC h
 · cases h

theorem RF {cx:Cx} {op:Op} {e:Operand→V} {g:Nat→Option bQ} {id:Nat} {chk:List Bool} {v:V} {bs:List bQ} (h:oG cx op e g id= .nw chk v bs):
 slots cx.P op=1:=by
 unfold oG at h
 unfold slots
 split at h
 · cases h
 · unfold yV at h
   split at h<;> cases h
 · unfold Es at h
   split at h
   · split at h<;> cases h
   · cases h
 · rename_i hc; rw [hc]
 · rename_i hc; rw [hc]
 · rename_i hc; rw [hc]

theorem ac7 (h:Hp) (id:Nat) (bs:List bQ):(O4 h id bs).length=h.length:=by
 cases bs<;> simp [O4]

theorem StepB.Iy {cx:Cx} {all:List Oper} {base i:Nat} {o:Oper} {st s1:St} {rem rem':List Nat} (hi:all[i]? =some o) (hs:StepB cx all o (xk cx.P base all i) st s1)
 (hav:BK cx.P all base rem st.h) (hsub: ∀ j∈rem',j∈rem∧j≠i):BK cx.P all base rem' s1.h:=by
 intro j q hj hq hsl
 obtain ⟨hj1,hj2⟩:=hsub j hj
 obtain ⟨h1,h2⟩:=hav j q hj1 hq hsl
 cases hs with
 | skip _=> exact ⟨h1,h2⟩
 | st _ _ _=> exact ⟨h1,h2⟩
 | @wr chk m b _ he _=>
   obtain ⟨_,t,a,v,_,hes⟩:=RG he
   obtain ⟨_,b',hb'⟩:=rM hes
   have hlt:m<st.h.length:=zf hb'
   refine ⟨by simpa using h1,?_⟩
   rw [fO hlt,if_neg]
   · exact h2
   · rintro e; rw [e] at h2; rw [h2] at hb'; cases hb'
 | @nw chk v bs _ he _=>
   refine ⟨by simpa [ac7] using h1,?_⟩
   have hsi:=RF he
   have hne:=R7 (base:=base) hq hi hsl hsi hj2
   cases bs with
   | nil=> exact h2
   | cons b l=>
     by_cases hlt:xk cx.P base all i<st.h.length
     · simp only [O4]
       rw [fO hlt,if_neg hne]
       exact h2
     · simp only [O4]
       rw [List.set_eq_of_length_le (by omega)]
       exact h2
 | @mv chk v us _ he _=>
   obtain ⟨hc,hor⟩:=Kv he
   have hne:=R7 (base:=base) hq hi hsl (by unfold slots; rw [hc]) hj2
   have key: ∀ (us:List (Nat × bQ)) (h:Hp),(∀ p∈us,p.1≠xk cx.P base all j)→xk cx.P base all j<h.length→hg h (xk cx.P base all j)=none→
    xk cx.P base all j<(dE h us).length∧hg (dE h us) (xk cx.P base all j)=none:=by
    intro us
    induction us with
    | nil=> intro h _ h1 h2; exact ⟨h1,h2⟩
    | cons p us ih=>
      intro h hp h1 h2
      obtain ⟨i',b⟩:=p
      simp only [dE]
      refine ih _ (fun q hq=> hp q (by simp [hq])) (by simpa using h1) ?_
      have hne':i'≠xk cx.P base all j:=hp (i',b) (by simp)
      unfold hg at h2 ⊢
      rw [List.getD_eq_getElem?_getD,List.getElem?_set,if_neg hne',← List.getD_eq_getElem?_getD]
      exact h2
   refine key us st.h (fun p hp e=> ?_) h1 h2
   have hlive:p.1=xk cx.P base all i∨hg st.h p.1≠none:=by
    rcases hor with ⟨c,_,hea⟩ | ⟨s,d,x,_,hea⟩
    · exact YV hea p hp
    · exact .inr (YZ hea p hp)
   rcases hlive with e' | e'
   · exact hne (e.symm.trans e')
   · exact e' (by rw [e]; exact h2)

theorem kg.Iy {J:JT} {cx:Cx} {all:List Oper} {base i:Nat} {o:Oper} {st s1:St} {rem rem':List Nat} (hi:all[i]? =some o) (hs:kg J cx all o (xk cx.P base all i) st s1)
 (hav:BK cx.P all base rem st.h) (hsub: ∀ j∈rem',j∈rem∧j≠i):BK cx.P all base rem' s1.h:=by
 cases hs with
 | base _ hb=> exact hb.Iy hi hav hsub
 | skip hg=> exact (StepB.skip (cx:=cx) hg).Iy hi hav hsub
 | il _ _ _ _ hk=>
   intro j q hj hq hsl
   obtain ⟨h1,h2⟩:=hav j q (hsub j hj).1 hq hsl
   obtain ⟨h3,h4⟩:=lG hk _ h1
   exact ⟨h3,h4 h2⟩
 | ilx _ _ _ hcl _ hk=>
   intro j q hj hq hsl
   obtain ⟨h1,h2⟩:=hav j q (hsub j hj).1 hq hsl
   have hl:=qz hk
   rw [ku] at hl
   obtain ⟨h3,h4⟩:=lG hk _ (by rw [ku]; exact h1)
   rw [AV _ _ _ _ hl,vN _ hl,if_pos h1]
   refine ⟨h3,?_⟩
   cases hm:eP (bz (hg st.h) _) (xk cx.P base all j) with
   | false=> exact h2
   | true=>
     refine h4 ?_
     rw [nL,hm]
     exact h2

theorem BN {J:JT} {cx:Cx} {ops:Array Oper} {base:Nat} {w0:World} {W:Nat→Prop} {Q:Exit→Act→World→Prop} (hT:aD cx.P cx.tab) (hJ: ∀ w0 W,JOk J cx w0 W):
 ∀ {tr:List (List Nat)} {l:List Nat} {st st':St} {σ:Sg} {a:Act} {w:World},BL J cx ops.toList base tr l st st'→l.Nodup→BK cx.P ops.toList base l st.h→gL w0 W cx.ro σ st a w→
   (∀ a' w' σ',Sub σ σ'→gL w0 W cx.ro σ' st' a' w'→Q .normal a' w')→wpOps cx.P ops Q l a w
 | _,[],_,_,_,_,_, .nil,_,_,hr,hq=> hq _ _ _ (Sub.refl _) hr
 | _,i::rest,st,st',σ,a,w, .cons (o:=o) (s1:=s1) hi _ _ _ hs hc,hnd,hav,hr,hq=> by
   have hio:ops[i]? =some o:=by rw [← Array.getElem?_toList]; exact hi
   simp only [wpOps,hio]
   refine OO hT hJ hs hr (fun hsl=> hav i o (by simp) hi hsl) ?_
   intro a' w' σ' hsub hr'
   obtain ⟨hn1,hn2⟩:=List.nodup_cons.1 hnd
   exact BN hT hJ hc hn2 (hs.Iy hi hav (fun j hj=> ⟨by simp [hj],fun e=> hn1 (e ▸ hj)⟩)) hr' (fun a2 w2 σ2 h2 hr2=> hq a2 w2 σ2 (hsub.trans h2) hr2)

theorem DX {P:Program} {all:List Oper} (h:Hp) (rem:List Nat):BK P all h.length rem (h++List.replicate (gI P all) none):=by
 intro i o _ hi hsl
 have hs:=zg (P:=P) h.length hi
 have hle:=lT (P:=P) all (show i+1≤max (i+1) all.length by omega)
 have htot:gI P (all.take (max (i+1) all.length))=gI P all:=by rw [List.take_of_length_le (by omega)]
 have hlt:xk P h.length all i<h.length+gI P all:=by unfold xk at*; omega
 have hge:h.length≤xk P h.length all i:=by unfold xk; omega
 refine ⟨by simpa using hlt,?_⟩
 unfold hg
 rw [List.getD_eq_getElem?_getD,List.getElem?_append_right hge,List.getElem?_replicate]
 split<;> rfl

theorem kN (h:Hp) (n j:Nat):hg (h++List.replicate n none) j=hg h j:=by
 unfold hg
 rw [List.getD_eq_getElem?_getD,List.getD_eq_getElem?_getD]
 by_cases hj:j<h.length
 · rw [List.getElem?_append_left hj]
 · rw [List.getElem?_append_right (by omega),List.getElem?_replicate,List.getElem?_eq_none (by omega)]
   split<;> rfl

theorem gL.pad {w0:World} {W:Nat→Prop} {ro:Nat} {σ:Sg} {st:St} {a:Act} {w:World} (hr:gL w0 W ro σ st a w) (n:Nat):
 gL w0 W ro σ ⟨st.t,st.h++List.replicate n none⟩ a w where
 defers:=hr.defers
 t:=hr.t
 h:=⟨fun id b h=> hr.h.blk id b (by rw [← kN st.h n]; exact h),
  fun i j m hi h1 h2=> (hr.h.inj i j m hi h1 h2).imp_right (Or.imp (fun ⟨e,he⟩=> ⟨e,by rw [kN]; exact he⟩) (fun ⟨e,he⟩=> ⟨e,by rw [kN]; exact he⟩)),
  fun i m h=> ⟨(hr.h.live i m h).1,by rw [kN]; exact (hr.h.live i m h).2⟩,hr.h.siz,hr.h.sep,hr.h.imm⟩
 fr:=hr.fr
end Vx

/-
  An executor of Go code on values of its own: what an operation hangs on; two operations change places.
-/
namespace Vx
open Go Go.RowKit

theorem Jp (g:Nat→Option bQ) (f:Nat):reach g f []= []:=by cases f<;> rfl

theorem MX {g g':Nat→Option bQ} {v:V} (hn:zu g v=false) (h: ∀ id,fE v=some id→g id=g' id):oJ g v=oJ g' v:=by
 unfold oJ
 unfold zu at hn
 cases hi:fE v with
 | none=>
   rw [hi] at hn
   simp only [Bool.not_eq_false',List.isEmpty_iff] at hn
   simp only [hn,Jp]
 | some id=>
   rw [hi] at hn
   dsimp only at hn ⊢
   rw [← h id hi]
   cases hb:g id with
   | none=> rfl
   | some b=>
     rw [hb] at hn
     simp only [Bool.not_eq_false',List.isEmpty_iff] at hn
     simp only [hn,Jp]

theorem yM {g g':Nat→Option bQ}: ∀ {l:List V},(∀ v∈l,zu g v=false)→(∀ v∈l, ∀ id,fE v=some id→g id=g' id)→fM g l=fM g' l
 | [],_,_=> rfl
 | v::l,hn,h=> by
   have h1:oJ g v=oJ g' v:=MX (hn v (by simp)) (h v (by simp))
   simp only [fM,h1,yM (l:=l) (fun u hu=> hn u (by simp [hu])) fun u hu=> h u (by simp [hu])]

theorem Oj {g g':Nat→Option bQ} {v:V} (h: ∀ id,fE v=some id→g id=g' id):zu g v=zu g' v:=by
 unfold zu
 cases hi:fE v with
 | none=> rfl
 | some id=> simp only [h id hi]

theorem xB {α:Type} {p q:α→Bool}: ∀ {l:List α},(∀ x∈l,p x=q x)→l.any p=l.any q
 | [],_=> rfl
 | x::l,h=> by simp only [List.any_cons,h x (by simp),xB (l:=l) fun y hy=> h y (by simp [hy])]

theorem rX {P:Program} {op:Op} {e:Operand→V} {g g':Nat→Option bQ} (hg: ∀ x∈looks P op, ∀ i,fE (e x)=some i→g i=g' i):eU P e g op=eU P e g' op:=by
 unfold eU
 cases hc:cls P op with
 | x=>
   cases op with
   | call c=>
     have hl:isLen c.callee=false:=by
      cases hl:isLen c.callee with
      | false=> rfl
      | true=> simp [cls,hl] at hc
     exact xB fun x hx=> Oj (hg x (by simp only [looks,hl]; exact hx))
   | _=> rfl
 | _=> rfl

theorem gW {α β:Type} {f g:α→List β}: ∀ {l:List α},(∀ x∈l,f x=g x)→l.flatMap f=l.flatMap g
 | [],_=> rfl
 | x::l,h=> by simp only [List.flatMap_cons,h x (by simp),gW (l:=l) fun y hy=> h y (by simp [hy])]

theorem u7 {g g':Nat→Option bQ}: ∀ (f:Nat) (ids:List Nat),(∀ k∈touch g f ids,g k=g' k)→reach g f ids=reach g' f ids∧touch g f ids=touch g' f ids
 | 0,_,_=> ⟨rfl,rfl⟩
 | f+1,ids,h=> by
   have h1: ∀ i∈ids,g i=g' i:=fun i hi=> h i (by
    unfold touch
    exact List.mem_flatMap.2 ⟨i,hi,List.mem_cons_self⟩)
   have h2: ∀ i∈ids, ∀ b,g i=some b→reach g f (xn b.c)=reach g' f (xn b.c)∧touch g f (xn b.c)=touch g' f (xn b.c):=fun i hi b hb=> u7 f _ fun k hk=> h k (by
    unfold touch
    refine List.mem_flatMap.2 ⟨i,hi,List.mem_cons_of_mem _ ?_⟩
    rw [hb]
    exact hk)
   unfold reach touch
   constructor
   · refine gW fun i hi=> ?_
     rw [← h1 i hi]
     cases hb:g i with
     | none=> rfl
     | some b=> simp only [(h2 i hi b hb).1]
   · refine gW fun i hi=> ?_
     rw [← h1 i hi]
     cases hb:g i with
     | none=> rfl
     | some b=> simp only [(h2 i hi b hb).2]

theorem tV {g g':Nat→Option bQ} {v:V} (h: ∀ k∈yz g v,g k=g' k):oJ g v=oJ g' v∧yz g v=yz g' v:=by
 unfold yz at h ⊢
 unfold oJ
 cases hi:fE v with
 | none=>
   rw [hi] at h
   obtain ⟨h1,h2⟩:=u7 5 _ h
   simp only [h1,h2,and_self]
 | some id=>
   rw [hi] at h
   dsimp only at h ⊢
   have h0:g id=g' id:=h id List.mem_cons_self
   rw [← h0]
   cases hb:g id with
   | none=> exact ⟨rfl,rfl⟩
   | some b=>
     rw [hb] at h
     obtain ⟨h1,h2⟩:=u7 5 _ fun k hk=> h k (List.mem_cons_of_mem _ hk)
     simp only [h1,h2,and_self]

theorem yO {g g':Nat→Option bQ}: ∀ {l:List V},(∀ v∈l, ∀ k∈yz g v,g k=g' k)→fM g l=fM g' l
 | [],_=> rfl
 | v::l,h=> by simp only [fM,(tV (h v (by simp))).1,yO (l:=l) fun u hu=> h u (by simp [hu])]

theorem p8 {P:Program} {op:Op} {e:Operand→V} {g g':Nat→Option bQ} (h: ∀ k∈eB P e g op,g k=g' k):eB P e g op=eB P e g' op:=by
 unfold eB at h ⊢
 cases hc:cls P op with
 | x=>
   rw [hc] at h
   cases op with
   | call c=> exact gW fun x hx=> (tV fun k hk=> h k (List.mem_flatMap.2 ⟨x,hx,hk⟩)).2
   | _=> rfl
 | _=> rfl

theorem wI {P:Program} {op:Op} {e e':Operand→V} {g:Nat→Option bQ} (h: ∀ x∈op.operands.toList,e x=e' x):eB P e g op=eB P e' g op:=by
 unfold eB
 cases hc:cls P op with
 | x=>
   cases op with
   | call c=>
     refine gW fun x hx=> ?_
     rw [h x (by simp only [Op.operands,Call.operands,Array.toList_append,List.mem_append]; exact .inr hx)]
   | _=> rfl
 | _=> rfl

theorem Ol {P:Program} {op:Op} {e:Operand→V} {g:Nat→Option bQ} (h:eU P e g op=true):cls P op= .x:=by
 unfold eU at h
 split at h
 · assumption
 · cases h

theorem ab5 {P:Program} {op:Op} {e:Operand→V} {g:Nat→Option bQ} (h:cls P op= .p):eU P e g op=false:=by
 unfold eU
 rw [h]

theorem zw {P:Program} {op:Op} {e e':Operand→V} {g:Nat→Option bQ} (h: ∀ x∈op.operands.toList,e x=e' x):eU P e g op=eU P e' g op:=by
 unfold eU
 cases hc:cls P op with
 | x=>
   cases op with
   | call c=>
     refine xB fun x hx=> ?_
     rw [h x (by simp only [Op.operands,Call.operands,Array.toList_append,List.mem_append]; exact .inr hx)]
   | _=> rfl
 | _=> rfl

theorem KJ {P:Program} {t:TypeId} {a:V} {g g':Nat→Option bQ} (h: ∀ id,fE a=some id→g id=g' id):rJ P t a g=rJ P t a g':=by
 unfold rJ
 split
 · rename_i id off
   rw [h id rfl]
 · rename_i id z i r
   rw [h id rfl]
 · rfl
 · rfl

theorem Hz {P:Program} {ro:Nat} {t:TypeId} {a v:V} {g g':Nat→Option bQ} (h: ∀ id,fE a=some id→g id=g' id):kM P ro t a v g=kM P ro t a v g':=by
 unfold kM
 split
 · split
   · rename_i id off
     rw [h id rfl]
   · rename_i id z i r
     rw [h id rfl]
   · rfl
 · rfl

theorem BR {ts:List LT} {a:V} {g g':Nat→Option bQ} (h: ∀ id,fE a=some id→g id=g' id):ko ts g a=ko ts g' a:=by
 unfold ko
 split
 · rfl
 · rfl
 · rw [h _ rfl]
 · rw [h _ rfl]
 · rfl

theorem KO {P:Program} {s d:TypeId} {a:V} {g g':Nat→Option bQ} (h: ∀ id,fE a=some id→g id=g' id):um P s d a g=um P s d a g':=by
 unfold um
 rw [BR h]

theorem Nt {P:Program} {ro:Nat} {c:Call} {e e':Operand→V} {g:Nat→Option bQ} {id:Nat} (h: ∀ x∈c.args.toList,e x=e' x):BU P ro c e g id=BU P ro c e' g id:=by
 unfold BU
 rcases hA:c.args.toList with _ | ⟨a,_ | ⟨b,_ | ⟨_,_⟩⟩⟩
 · rfl
 · rfl
 · have ha:=h a (by simp [hA])
   have hb:=h b (by simp [hA])
   rcases c.argTypes.toList with _ | ⟨t,_ | ⟨u,_ | ⟨_,_⟩⟩⟩
   · rfl
   · rfl
   · simp only [ha,hb]
   · rfl
 · rfl

theorem RO {rw:Bool} {P:Program} {ro:Nat} {c:Call} {e e':Operand→V} {g:Nat→Option bQ} {id:Nat} (h: ∀ x∈c.args.toList,e x=e' x):Ny rw P ro c e g id=Ny rw P ro c e' g id:=by
 unfold Ny
 split
 · exact Nt h
 · have h1:xL P ro c e g=xL P ro c e' g:=by
    unfold xL
    rcases hA:c.args.toList with _ | ⟨a,_ | ⟨b,_ | ⟨_,_⟩⟩⟩
    · rfl
    · rfl
    · have ha:=h a (by simp [hA])
      have hb:=h b (by simp [hA])
      rcases c.argTypes.toList with _ | ⟨t,_ | ⟨u,_ | ⟨_,_⟩⟩⟩
      · rfl
      · rfl
      · simp only [ha,hb]
      · rfl
    · rfl
   have h2:rG P ro c e g=rG P ro c e' g:=by
    unfold rG
    rcases hA:c.args.toList with _ | ⟨a,_ | ⟨b,_ | ⟨_,_⟩⟩⟩
    · rfl
    · rfl
    · have ha:=h a (by simp [hA])
      have hb:=h b (by simp [hA])
      rcases c.argTypes.toList with _ | ⟨t,_ | ⟨u,_ | ⟨_,_⟩⟩⟩
      · rfl
      · rfl
      · simp only [ha,hb]
      · rfl
    · rfl
   have h3:rH P ro c e g=rH P ro c e' g:=by
    unfold rH
    rcases hA:c.args.toList with _ | ⟨a,_ | ⟨b,_ | ⟨_,_⟩⟩⟩
    · rfl
    · rfl
    · have ha:=h a (by simp [hA])
      have hb:=h b (by simp [hA])
      rcases c.argTypes.toList with _ | ⟨t,_ | ⟨u,_ | ⟨_,_⟩⟩⟩
      · rfl
      · rfl
      · simp only [ha,hb]
      · rfl
    · rfl
   have hC:ni P ro c e g=ni P ro c e' g:=by
    unfold ni
    rw [h1,h2]
   unfold y5
   rw [h3,hC]
 · rfl

theorem lH {α β:Type} {f g:α→β} {l:List α} (h: ∀ x∈l,f x=g x):l.map f=l.map g:=List.map_congr_left h

theorem YW {sy:Bool} {P:Program} {op:Op} {e e':Operand→V} (h: ∀ x∈op.operands.toList,e x=e' x):EC sy P op e=EC sy P op e':=by
 cases op with
 | move x=> simp only [EC,h x (by simp [Op.operands])]
 | assign x=> simp only [EC,h x (by simp [Op.operands])]
 | pick c a b=> simp only [EC,h c (by simp [Op.operands]),h a (by simp [Op.operands]),h b (by simp [Op.operands])]
 | nilCheck x=> simp only [EC,h x (by simp [Op.operands])]
 | binOp op t x y yt=> simp only [EC,h x (by simp [Op.operands]),h y (by simp [Op.operands])]
 | unOp op t x=> simp only [EC,h x (by simp [Op.operands])]
 | convert s d x=> simp only [EC,h x (by simp [Op.operands])]
 | fieldAddr s x f=> simp only [EC,h x (by simp [Op.operands])]
 | field s x f=> simp only [EC,h x (by simp [Op.operands])]
 | indexAddr t x i=> simp only [EC,h x (by simp [Op.operands]),h i (by simp [Op.operands])]
 | index t x i=> simp only [EC,h x (by simp [Op.operands]),h i (by simp [Op.operands])]
 | slice t x lo hi mx=>
   have h1:lo.map e=lo.map e':=by cases lo with
    | none=> rfl
    | some y=> simp only [Option.map_some,h y (by simp [Op.operands])]
   have h2:hi.map e=hi.map e':=by cases hi with
    | none=> rfl
    | some y=> simp only [Option.map_some,h y (by simp [Op.operands])]
   have h3:mx.map e=mx.map e':=by cases mx with
    | none=> rfl
    | some y=> simp only [Option.map_some,h y (by simp [Op.operands])]
   simp only [EC,h x (by simp [Op.operands]),h1,h2,h3]
 | extract t i=> simp only [EC,h t (by simp [Op.operands])]
 | build t ps=>
   have h1:(ps.toList.map fun p=> (p.1,e p.2))=ps.toList.map fun p=> (p.1,e' p.2):=by
    refine lH fun p hp=> ?_
    rw [h p.2 (by simp only [Op.operands]; exact List.mem_map.2 ⟨p,hp,rfl⟩)]
   simp only [EC,h1]
 | sliceToArrayPointer t x=> simp only [EC,h x (by simp [Op.operands])]
 | makeFunc fn first caps=>
   have h1:first.toList.map e=first.toList.map e':=lH fun x hx=> h x (by simp only [Op.operands,Array.toList_append,List.mem_append]; exact .inl hx)
   have h2:caps.toList.map e=caps.toList.map e':=lH fun x hx=> h x (by simp only [Op.operands,Array.toList_append,List.mem_append]; exact .inr hx)
   simp only [EC,h1,h2]
 | call c=>
   obtain ⟨cl,args,ats⟩:=c
   cases cl with
   | value f=> rfl
   | invoke r m=> rfl
   | builtin b=>
     cases b<;> first | rfl | skip
     · simp only [EC]
       split
       · rename_i x t hx ht
         rw [h x (by simp [Op.operands,Call.operands,hx])]
       · rfl
     · simp only [EC]
       split
       · rename_i x y hx
         rw [h x (by simp [Op.operands,Call.operands,hx]),h y (by simp [Op.operands,Call.operands,hx])]
       · rfl
 | _=> rfl

theorem Hl {rw0:Bool} {P:Program} {op:Op} {e e':Operand→V} {id:Nat} (h: ∀ x∈op.operands.toList,e x=e' x):jO rw0 P op e id=jO rw0 P op e' id:=by
 cases op with
 | box t x=> simp only [jO,jb,h x (by simp [Op.operands])]
 | convert s d x=> simp only [jO,h x (by simp [Op.operands])]
 | buildSlice t n ps=>
   have h1:(ps.toList.map fun p=> (p.1,e p.2))=ps.toList.map fun p=> (p.1,e' p.2):=by
    refine lH fun p hp=> ?_
    rw [h p.2 (by simp only [Op.operands]; exact List.mem_map.2 ⟨p,hp,rfl⟩)]
   simp only [jO,jb,h1]
 | makeSlice t a b=> simp only [jO,jb,h a (by simp [Op.operands]),h b (by simp [Op.operands])]
 | _=> rfl

theorem lv {cx:Cx} {op:Op} {e e':Operand→V} {g:Nat→Option bQ} {id:Nat} (h: ∀ x∈op.operands.toList,e x=e' x):
 oG cx op e g id=oG cx op e' g id:=by
 unfold oG
 cases hc:cls cx.P op with
 | p=> simp only [YW h]
 | a=> simp only [Hd,Hl h]
 | r=>
   cases op with
   | load t a=> simp only [yV,h a (by simp [Op.operands])]
   | convert s d a=> simp only [yV,h a (by simp [Op.operands])]
   | _=> rfl
 | m=>
   cases op with
   | call c=>
     have h1:=RO (rw:=cx.rw) (P:=cx.P) (ro:=cx.ro) (g:=g) (id:=id) (c:=c) (e:=e) (e':=e') fun x hx=> h x (by
      simp only [Op.operands,Call.operands,Array.toList_append,List.mem_append]; exact .inr hx)
     simp only [Ku,h1]
   | convert s d a=> simp only [Ku,h a (by simp [Op.operands])]
   | _=> rfl
 | w=>
   cases op with
   | store t a v=> simp only [Es,h a (by simp [Op.operands]),h v (by simp [Op.operands])]
   | _=> rfl
 | x=>
   cases op with
   | call c=>
     obtain ⟨cl,args,ats⟩:=c
     cases cl with
     | value f=>
       have h1:args.toList.map e=args.toList.map e':=lH fun x hx=> h x (by
        simp only [Op.operands,Call.operands,Array.toList_append,List.mem_append]; exact .inr hx)
       have h3:e f=e' f:=h f (by simp [Op.operands,Call.operands])
       simp only [He,jK,callee,h3,← h1]
     | invoke r m=> rfl
     | builtin b=> rfl
   | _=> rfl

theorem vC {t:List V} {d:Option Tmp} {v:V} {x:Operand} {o:Op} (hx:x∈o.operands.toList) (hd: ∀ n,d=some n→n ∉ Df o):
 fo (bR t d v) x=fo t x:=by
 cases d with
 | none=> rfl
 | some n=>
   cases x with
   | tmp m=>
     have hm:m∈Df o:=List.mem_filterMap.2 ⟨.tmp m,hx,rfl⟩
     have hne:m≠n:=fun e=> hd n rfl (e ▸ hm)
     simp only [fo,bR]
     rw [K3,if_neg (fun h=> hne h.1)]
   | _=> rfl

theorem rR {all:List Oper} {o:Oper} {t:List V} {d:Option Tmp} {v:V} (hd: ∀ n,d=some n→n ∉ readsOf all o):
 bO all o (bR t d v)=bO all o t:=by
 cases d with
 | none=> rfl
 | some n=>
   have hn:=hd n rfl
   unfold readsOf at hn
   unfold bO
   cases hg:o.guard with
   | none=> rfl
   | some jw=>
     obtain ⟨j,want⟩:=jw
     simp only [hg] at hn ⊢
     cases hj:all[j]? with
     | none=> rfl
     | some q=>
       simp only [hj] at hn ⊢
       cases hq:q.dst with
       | none=> rfl
       | some m=>
         simp only [hq,List.mem_append,Option.mem_toList,Option.some.injEq,not_or] at hn ⊢
         have hne:m≠n:=fun e=> hn.1 (by rw [e])
         simp only [bR]
         rw [K3,if_neg (fun h=> hne h.1)]

theorem Jo {t:List V} {d d':Option Tmp} {v v':V} (h: ∀ n,d=some n→d'≠some n):bR (bR t d v) d' v'=bR (bR t d' v') d v:=by
 cases d with
 | none=> rfl
 | some n=>
   cases d' with
   | none=> rfl
   | some m=>
     have hne:n≠m:=fun e=> h n rfl (by rw [e])
     simp only [bR]
     exact List.set_comm _ _ hne

theorem vg {A:List Nat} {n:Nat} (h:n∈A):A.any (Nat.beq n)=true:=List.any_eq_true.2 ⟨_,h,Nat.beq_refl _⟩

theorem Fa {P:Program} {A:List Nat} {q:Oper} (h:uE P A q=true) (hm:nX∈A):cls P q.op= .p:=by
 unfold uE at h
 rw [vg hm] at h
 simp only at h
 split at h
 · assumption
 · cases h

theorem Cb {P:Program} {A:List Nat} {q:Oper} (h:uE P A q=true) (hm:mV∈A):cls P q.op= .p∨cls P q.op= .r∨(cls P q.op= .a∧kP q.op=true):=by
 unfold uE at h
 split at h
 · split at h
   · rename_i hc; exact .inl hc
   · cases h
 · rw [Bool.and_eq_true,vg hm] at h
   have h:=h.1
   simp only at h
   split at h
   · rename_i hc; exact .inl hc
   · rename_i hc; exact .inr (.inl hc)
   · rename_i hc; exact .inr (.inr ⟨hc,h⟩)
   · cases h

theorem Ca {P:Program} {A:List Nat} {q:Oper} (h:uE P A q=true) (hm:zq∈A):cls P q.op≠ .w∧cls P q.op≠ .m:=by
 unfold uE at h
 split at h
 · split at h
   · rename_i hc; rw [hc]; exact ⟨fun e=> (nomatch e),fun e=> (nomatch e)⟩
   · cases h
 · rw [Bool.and_eq_true,vg hm] at h
   have h:=h.2
   simp only at h
   split at h
   · cases h
   · cases h
   · rename_i h1 h2; exact ⟨h1,h2⟩

theorem MV {P:Program} {A B:List Nat} {all:List Oper} {o q:Oper} (h:apart P A B all o q=true):(nX∈A→cls P q.op= .p)∧(nX∈B→cls P o.op= .p):=by
 unfold apart at h
 simp only [Bool.and_eq_true] at h
 exact ⟨Fa h.1.1.1.1.1,Fa h.1.1.1.1.2⟩

theorem Kc {P:Program} {A B:List Nat} {all:List Oper} {o q:Oper} (h:apart P A B all o q=true):(mV∈A→cls P q.op= .p∨cls P q.op= .r∨(cls P q.op= .a∧kP q.op=true))∧(mV∈B→cls P o.op= .p∨cls P o.op= .r∨(cls P o.op= .a∧kP o.op=true))∧(mV∈A∨mV∈B→far A B=true):=by
 unfold apart at h
 simp only [Bool.and_eq_true] at h
 refine ⟨Cb h.1.1.1.1.1,Cb h.1.1.1.1.2,fun hm=> ?_⟩
 have h1:=h.1.1.1.2
 unfold alg at h1
 rcases hm with hm | hm
 · rw [vg hm,Bool.true_or,cond_true] at h1; exact h1
 · rw [vg hm,Bool.or_true,cond_true] at h1; exact h1

theorem yL {P:Program} {A B:List Nat} {all:List Oper} {o q:Oper} (h:apart P A B all o q=true):(zq∈A→cls P q.op≠ .w∧cls P q.op≠ .m)∧(zq∈B→cls P o.op≠ .w∧cls P o.op≠ .m):=by
 unfold apart at h
 simp only [Bool.and_eq_true] at h
 exact ⟨Ca h.1.1.1.1.1,Ca h.1.1.1.1.2⟩

theorem tT {P:Program} {A B:List Nat} {all:List Oper} {o q:Oper} (h:apart P A B all o q=true):
 (wY (cls P o.op) (cls P q.op)=true∨(far A B=true∧cls P o.op≠ .m∧cls P q.op≠ .m))∧(∀ n,o.dst=some n→n ∉ readsOf all q∧q.dst≠some n)∧(∀ n,q.dst=some n→n ∉ readsOf all o):=by
 unfold apart at h
 simp only [Bool.and_eq_true] at h
 obtain ⟨⟨⟨_,h1⟩,h2⟩,h3⟩:=h
 refine ⟨by simpa [and_assoc] using h1,?_,?_⟩
 · intro n hn
   rw [hn] at h2
   simp only [Bool.and_eq_true,Bool.not_eq_true',beq_eq_false_iff_ne,ne_eq] at h2
   refine ⟨?_,h2.2⟩
   intro hm
   rw [List.contains_iff_mem.2 hm] at h2
   exact absurd h2.1 (by simp)
 · intro n hn
   rw [hn] at h3
   intro hm
   simp only [List.contains_iff_mem.2 hm,Bool.not_true] at h3
   cases h3

theorem C8 {A B:List Nat} (h:far A B=true) {k:Nat} (ha:k∈A):k ∉ B:=by
 intro hb
 unfold far at h
 simp only [List.all_eq_true] at h
 have:=h k ha k hb
 simp at this

theorem nN {all:List Oper} {o:Oper} {n:Nat} (h:n ∉ readsOf all o):n ∉ Df o.op:=
 fun hm=> h (List.mem_append.2 (.inr hm))

theorem StepB.tmps {cx:Cx} {all:List Oper} {o:Oper} {id:Nat} {st st':St} (h:StepB cx all o id st st'): ∃ v,st'.t=bR st.t o.dst v:=by
 cases h<;> exact ⟨_,rfl⟩
theorem kg.tmps {J:JT} {cx:Cx} {all:List Oper} {o:Oper} {id:Nat} {st st':St} (h:kg J cx all o id st st'): ∃ v,st'.t=bR st.t o.dst v:=by
 cases h with
 | base _ h=> exact h.tmps
 | skip _=> exact ⟨_,rfl⟩
 | il _ _ _ _ _=> exact ⟨_,rfl⟩
 | ilx _ _ _ _ _ _=> exact ⟨_,rfl⟩

theorem jr {h:Hp} {i j:Nat} {b:Option bQ} (hne:j≠i):hg (h.set i b) j=hg h j:=by
 unfold hg
 rw [List.getD_eq_getElem?_getD,List.getElem?_set,if_neg (fun e=> hne e.symm),List.getD_eq_getElem?_getD]

theorem BM {g:Nat→Option bQ}: ∀ {l:List V} {r:List (V × List (Nat × bQ))},fM g l=some r→ ∀ v∈l, ∀ i,fE v=some i→g i≠none
 | [],_,_,v,hv,_,_=> by simp at hv
 | v::l,r,h,u,hu,i,hi=> by
   simp only [fM] at h
   split at h
   · rename_i a r' ha hr
     rcases List.mem_cons.1 hu with rfl | hu
     · unfold oJ at ha
       rw [hi] at ha
       simp only at ha
       split at ha
       · rename_i b hb; rw [hb]; simp
       · cases ha
     · exact BM hr u hu i hi
   · cases h

theorem xJ {cx:Cx} {op:Op} {e:Operand→V} {g g':Nat→Option bQ} {id:Nat} (hm:cls cx.P op= .m→g=g') (hn:eU cx.P e g op=false∨ ∀ k∈eB cx.P e g op,g k=g' k)
 (hg: ∀ x∈looks cx.P op, ∀ i,fE (e x)=some i→g i=g' i):oG cx op e g id=oG cx op e g' id:=by
 unfold oG
 cases hc:cls cx.P op with
 | p=> rfl
 | a=> rfl
 | m=> rw [hm hc]
 | r=> cases op with
   | load t a=> simp only [yV,KJ (hg a (by simp [looks]))]
   | convert s d a=>
     have hl:a∈looks cx.P (.convert s d a):=by
      simp only [cls] at hc
      simp only [looks]
      split at hc
      · rename_i hu
        rw [hu]
        simp
      · split at hc<;> cases hc
      · cases hc
     simp only [yV,KO (hg a hl)]
   | _=> rfl
 | w=> cases op with
   | store t a v=> simp only [Es,Hz (hg a (by simp [looks]))]
   | _=> rfl
 | x=> cases op with
   | call c=>
     have hl:isLen c.callee=false:=by
      cases hl:isLen c.callee with
      | false=> rfl
      | true=> simp [cls,hl] at hc
     have h2:fM g (c.args.toList.map e)=fM g' (c.args.toList.map e):=by
      rcases hn with hn | hn
      rotate_left 1
      · refine yO fun v hv k hk=> ?_
        obtain ⟨x,hx,rfl⟩:=List.mem_map.1 hv
        refine hn k ?_
        unfold eB
        rw [hc]
        exact List.mem_flatMap.2 ⟨x,hx,hk⟩
      refine yM (fun v hv=> ?_) fun v hv=> ?_
      · obtain ⟨x,hx,rfl⟩:=List.mem_map.1 hv
        unfold eU at hn
        rw [hc] at hn
        simp only at hn
        cases hv':zu g (e x) with
        | false=> rfl
        | true=>
          have:(c.args.toList.any fun x=> zu g (e x))=true:=List.any_eq_true.2 ⟨x,hx,hv'⟩
          rw [this] at hn; cases hn
      · obtain ⟨x,hx,rfl⟩:=List.mem_map.1 hv
        exact hg x (by simp only [looks,hl]; exact hx)
     simp only [He,jK,h2]
   | _=> rfl

theorem Et {ts:List LT} {g:Nat→Option bQ} {a:V} {i:Nat} (hi:fE a=some i) (hn:g i=none):ko ts g a=none:=by
 unfold ko
 split
 · cases hi
 · cases hi
 · cases hi; rw [hn]
 · cases hi; rw [hn]
 · rfl

theorem NA {P:Program} {s d:TypeId} {g:Nat→Option bQ} {a:V} {i:Nat} (hi:fE a=some i) (hn:g i=none):um P s d a g= .no:=by
 unfold um
 rw [Et hi hn]
 split
 · split
   · simp_all
   · rfl
 · rfl

theorem YR {cx:Cx} {op:Op} {e:Operand→V} {g:Nat→Option bQ} {id:Nat} (hm:cls cx.P op≠ .m) (h:(∃ s v,oG cx op e g id= .st s∧Gives s v)∨(∃ c i b,oG cx op e g id= .wr c i b)∨ ∃ c v bs,oG cx op e g id= .nw c v bs):
 ∀ x∈looks cx.P op, ∀ i,fE (e x)=some i→g i≠none:=by
 intro x hx i hi hn
 cases op with
 | load t a=>
   simp only [looks,List.mem_singleton] at hx
   subst hx
   have hno:rJ cx.P t (e x) g= .no:=by
    unfold rJ
    split
    · rename_i id' off hv
      rw [hv] at hi
      simp only [fE,Option.some.injEq] at hi
      subst hi
      rw [hn]
    · rename_i id' z i' r hv
      rw [hv] at hi
      simp only [fE,Option.some.injEq] at hi
      subst hi
      rw [hn]
    · rename_i hv
      rw [hv] at hi
      cases hi
    · rfl
   have:oG cx (.load t x) e g id= .st .no:=by simp only [oG,cls,yV,hno]
   rw [this] at h
   rcases h with ⟨s,v,h1,h2⟩ | ⟨_,_,_,h1⟩ | ⟨_,_,_,h1⟩
   · cases h1; cases h2
   · cases h1
   · cases h1
 | convert s d a=>
   simp only [looks] at hx
   split at hx
   · rename_i e' he
     simp only [List.mem_singleton] at hx
     subst hx
     have:oG cx (.convert s d x) e g id= .st .no:=by
      simp only [cls,he] at hm
      simp only [oG,cls,he,yV,NA hi hn]
      split at hm
      · exact absurd rfl hm
      · rfl
     rw [this] at h
     rcases h with ⟨s,v,h1,h2⟩ | ⟨_,_,_,h1⟩ | ⟨_,_,_,h1⟩
     · cases h1; cases h2
     · cases h1
     · cases h1
   · simp at hx
 | store t a v=>
   simp only [looks,List.mem_singleton] at hx
   subst hx
   have hno:kM cx.P cx.ro t (e x) (e v) g=none:=by
    cases hs:kM cx.P cx.ro t (e x) (e v) g with
    | none=> rfl
    | some r=>
      obtain ⟨chk,j,b⟩:=r
      obtain ⟨h1,b',h2⟩:=rM hs
      rw [hi] at h1
      cases h1
      rw [hn] at h2
      cases h2
   have:oG cx (.store t x v) e g id= .no:=by simp only [oG,cls,Es,hno]
   rw [this] at h
   rcases h with ⟨s,v,h1,h2⟩ | ⟨_,_,_,h1⟩ | ⟨_,_,_,h1⟩<;> cases h1
 | call c=>
   simp only [looks] at hx
   cases hl:isLen c.callee with
   | true=> rw [hl] at hx; simp at hx
   | false=>
     rw [hl] at hx
     have hmv:abO c.callee=false:=by
      cases hmv:abO c.callee with
      | false=> rfl
      | true=> simp [cls,hl,hmv] at hm
     have hno:fM g (c.args.toList.map e)=none:=by
      cases ha:fM g (c.args.toList.map e) with
      | none=> rfl
      | some r=> exact absurd hn (BM ha (e x) (List.mem_map.2 ⟨x,hx,rfl⟩) i hi)
     have:oG cx (.call c) e g id= .no:=by
      simp only [oG,cls,hl,hmv,He,jK,hno]
      split
      · split<;> rfl
      · rfl
     rw [this] at h
     rcases h with ⟨s,v,h1,h2⟩ | ⟨_,_,_,h1⟩ | ⟨_,_,_,h1⟩<;> cases h1
 | _=> simp [looks] at hx

theorem A8 {P:Program} {op:Op}: ∀ x∈looks P op,x∈op.operands.toList:=by
 intro x hx
 cases op with
 | load t a=> simpa [looks,Op.operands] using hx
 | store t a v=> simp [looks] at hx; simp [Op.operands,hx]
 | convert s d a=>
   simp only [looks] at hx
   split at hx
   · simpa [Op.operands] using hx
   · simp at hx
 | call c=>
   simp only [looks] at hx
   split at hx
   · simp at hx
   · simp only [Op.operands,Call.operands,Array.toList_append,List.mem_append]
     exact .inr hx
 | _=> simp [looks] at hx
end Vx

/-
  An executor of Go code on values of its own: a region in any order.
-/
namespace Vx
open Go Go.RowKit

inductive Does (E:Eff) (id:Nat):V→List (Nat × bQ)→Prop where
 | st {s:Step} {v:V}:E= .st s→Gives s v→Does E id v []
 | wr {chk:List Bool} {i:Nat} {b:bQ}:E= .wr chk i b→allT chk→Does E id bW [(i,b)]
 | nw0 {chk:List Bool} {v:V}:E= .nw chk v []→allT chk→Does E id v []
 | nw1 {chk:List Bool} {v:V} {b:bQ} {l:List bQ}:E= .nw chk v (b::l)→allT chk→Does E id v [(id,b)]
 | mv {chk:List Bool} {v:V} {us:List (Nat × bQ)}:E= .mv chk v us→allT chk→Does E id v us

theorem dH {cx:Cx} {all:List Oper} {o:Oper} {id:Nat} {st st':St}:StepB cx all o id st st'↔
 (bO all o st.t=some false∧st'=⟨bR st.t o.dst bW,st.h⟩)∨
 (bO all o st.t=some true∧ ∃ v us,Does (oG cx o.op (fo st.t) (hg st.h) id) id v us∧st'=⟨bR st.t o.dst v,dE st.h us⟩):=by
 constructor
 · intro h
   cases h with
   | skip h=> exact .inl ⟨h,rfl⟩
   | st h1 h2 h3=> exact .inr ⟨h1,_,_, .st h2 h3,rfl⟩
   | wr h1 h2 h3=> exact .inr ⟨h1,_,_, .wr h2 h3,rfl⟩
   | @nw chk v bs h1 h2 h3=>
     cases bs with
     | nil=> exact .inr ⟨h1,_,_, .nw0 h2 h3,rfl⟩
     | cons b l=> exact .inr ⟨h1,_,_, .nw1 h2 h3,rfl⟩
   | mv h1 h2 h3=> exact .inr ⟨h1,_,_, .mv h2 h3,rfl⟩
 · rintro (⟨h,rfl⟩ | ⟨h,v,u,hd,rfl⟩)
   · exact .skip h
   · cases hd with
     | st h2 h3=> exact .st h h2 h3
     | wr h2 h3=> exact .wr h h2 h3
     | nw0 h2 h3=> exact .nw h h2 h3
     | nw1 h2 h3=> exact .nw h h2 h3
     | mv h2 h3=> exact .mv h h2 h3

theorem Ep {cx:Cx} {op:Op} {e:Operand→V} {g:Nat→Option bQ} {id:Nat} {v:V} {u:List (Nat × bQ)} (h:Does (oG cx op e g id) id v u) (hm:cls cx.P op≠ .m):
 ∀ x∈looks cx.P op, ∀ i,fE (e x)=some i→g i≠none:=by
 refine YR (cx:=cx) (id:=id) hm ?_
 cases h with
 | st h1 h2=> exact .inl ⟨_,_,h1,h2⟩
 | wr h1 _=> exact .inr (.inl ⟨_,_,_,h1⟩)
 | nw0 h1 _=> exact .inr (.inr ⟨_,_,_,h1⟩)
 | nw1 h1 _=> exact .inr (.inr ⟨_,_,_,h1⟩)
 | mv h1 _=> exact absurd (Kv h1).1 hm

theorem nU {cx:Cx} {op:Op} {e:Operand→V} {g:Nat→Option bQ} {id:Nat} {us:List (Nat × bQ)} {v:V} (h:Does (oG cx op e g id) id v us) (hm:cls cx.P op≠ .m):
 us= []∨ ∃ i b,us= [(i,b)]∧((cls cx.P op= .w∧g i≠none∧ ∃ x∈looks cx.P op,fE (e x)=some i)∨(slots cx.P op=1∧i=id)):=by
 cases h with
 | st h1 h2=> exact .inl rfl
 | nw0 h1 _=> exact .inl rfl
 | wr h1 _=>
   obtain ⟨hc,t,a,v,hop,hes⟩:=RG h1
   obtain ⟨hi,b',hb'⟩:=rM hes
   exact .inr ⟨_,_,rfl, .inl ⟨hc,by rw [hb']; simp,a,by rw [hop]; simp [looks],hi⟩⟩
 | nw1 h1 _=> exact .inr ⟨_,_,rfl, .inr ⟨RF h1,rfl⟩⟩
 | mv h1 _=> exact absurd (Kv h1).1 hm

theorem Er {cx:Cx} {op:Op} {e:Operand→V} {g:Nat→Option bQ} {id:Nat} {us:List (Nat × bQ)} {v:V} (h:Does (oG cx op e g id) id v us) (hp:cls cx.P op= .p):us= []:=by
 cases h with
 | st h1 h2=> rfl
 | nw0 h1 _=> rfl
 | wr h1 _=> rw [(RG h1).1] at hp; cases hp
 | nw1 h1 _=>
   have:=RF h1
   simp [slots,hp] at this
 | mv h1 _=> rw [(Kv h1).1] at hp; cases hp

theorem nK {P:Program} {op:Op} (h:cls P op= .p∨cls P op= .a):looks P op= []:=by
 cases op with
 | load t a=> simp [cls] at h
 | store t a v=> simp [cls] at h
 | convert s d a=>
   simp only [cls,looks] at h ⊢
   cases hu:P.underlying s with
   | none=> rfl
   | some u=>
     rw [hu] at h
     cases u<;> first
      | rfl
      | (simp only at h
         rcases h with h | h<;> split at h<;> cases h)
      | (simp at h)
 | call c=>
   simp only [cls,looks] at h ⊢
   split at h
   · rename_i hl; first | rfl | rw [hl]
   · split at h<;> simp at h
 | _=> rfl

theorem UU {c:Cl} (h:wY c .w=true∨wY .w c=true):c= .p∨c= .a:=by
 cases c<;> simp [wY] at h ⊢

theorem UT {c:Cl} (h:wY c .m=true∨wY .m c=true):c= .p:=by
 cases c<;> simp [wY] at h ⊢

def NC (cx:Cx) (all:List Oper) (st:St) (o:Oper) (A:List Nat):Prop:=bO all o st.t=some true→eU cx.P (fo st.t) (hg st.h) o.op=true→
 zq∈A∧ ∀ k∈eB cx.P (fo st.t) (hg st.h) o.op,k∈A∧hg st.h k≠none

theorem al1 {cx:Cx} {all:List Oper} {o q:Oper} {idi idj:Nat} {st s1 s2:St} {A B:List Nat} (hq:StepB cx all q idj st s1) (ho:StepB cx all o idi s1 s2) (hap:apart cx.P A B all o q=true)
 (huo: ∀ x∈looks cx.P o.op, ∀ k,fE (fo st.t x)=some k→k∈A) (huq: ∀ x∈looks cx.P q.op, ∀ k,fE (fo st.t x)=some k→k∈B)
 (hlive:slots cx.P q.op=1→idj ∉ A)
 (avi:slots cx.P o.op=1→hg st.h idi=none) (avj:slots cx.P q.op=1→hg st.h idj=none) (hne:slots cx.P o.op=1→slots cx.P q.op=1→idi≠idj)
 (hno:NC cx all s1 o A) (hnq:NC cx all st q B):
 ∃ s1',StepB cx all o idi st s1'∧StepB cx all q idj s1' s2∧NC cx all st o A∧NC cx all s1' q B:=by
 obtain ⟨hcl0,hdo,hdq⟩:=tT hap
 have hcl:wY (cls cx.P o.op) (cls cx.P q.op)=true∨ ∀ x∈looks cx.P o.op, ∀ y∈looks cx.P q.op, ∀ k,fE (fo st.t x)=some k→fE (fo st.t y)≠some k:=
  hcl0.imp_right fun hf x hx y hy k hk hk'=> C8 hf.1 (huo x hx k hk) (huq y hy k hk')
 have hqm:cls cx.P q.op= .m→cls cx.P o.op= .p:=fun h=> by
  rcases hcl0 with h1 | h1
  · rw [h] at h1; exact UT (.inl h1)
  · exact absurd h h1.2.2
 have hom:cls cx.P o.op= .m→cls cx.P q.op= .p:=fun h=> by
  rcases hcl0 with h1 | h1
  · rw [h] at h1; exact UT (.inr h1)
  · exact absurd h h1.2.1
 -- the operands of the one, behind the other
 have eo: ∀ v, ∀ x∈o.op.operands.toList,fo (bR st.t q.dst v) x=fo st.t x:=fun v x hx=> vC hx fun n hn=> nN (hdq n hn)
 have eq': ∀ v, ∀ x∈q.op.operands.toList,fo (bR st.t o.dst v) x=fo st.t x:=fun v x hx=> vC hx fun n hn=> nN (hdo n hn).1
 have go': ∀ v,bO all o (bR st.t q.dst v)=bO all o st.t:=fun v=> rR hdq
 have gq': ∀ v,bO all q (bR st.t o.dst v)=bO all q st.t:=fun v=> rR fun n hn=> (hdo n hn).1
 have pc: ∀ v v',bR (bR st.t q.dst v) o.dst v'=bR (bR st.t o.dst v') q.dst v:=fun v v'=> Jo fun n hn=> by
  intro h; exact (hdo n h).2 hn
 rcases dH.1 hq with ⟨hg1,rfl⟩ | ⟨hg1,v1,u1,hd1,rfl⟩
 · rcases dH.1 ho with ⟨hg2,rfl⟩ | ⟨hg2,v2,u2,hd2,rfl⟩
   · simp only [go'] at hg2
     refine ⟨_,dH.2 (.inl ⟨hg2,rfl⟩),dH.2 (.inl ⟨by simp only [gq']; exact hg1,?_⟩),fun h _=> ?_,fun h _=> ?_⟩
     · simp only [pc]
     · rw [hg2] at h; cases h
     · simp only [gq',hg1] at h; cases h
   · unfold NC at hno
     simp only [go'] at hg2 hno
     simp only [lv (eo bW)] at hd2
     refine ⟨_,dH.2 (.inr ⟨hg2,v2,u2,hd2,rfl⟩),dH.2 (.inl ⟨by simp only [gq']; exact hg1,?_⟩),fun h hn=> ?_,fun h _=> ?_⟩
     · simp only [pc]
     · have:=hno h (by rw [zw (eo bW)]; exact hn)
       rw [wI (eo bW)] at this
       exact this
     · simp only [gq',hg1] at h; cases h
 · -- what the other looks up is not what this one turns
   have h1: ∀ x∈looks cx.P o.op, ∀ k,fE (fo st.t x)=some k→hg (dE st.h u1) k=hg st.h k:=by
    intro x hx k hk
    by_cases hm:cls cx.P q.op= .m
    · rw [nK (.inl (hqm hm))] at hx
      simp at hx
    · rcases nU hd1 hm with rfl | ⟨i,b,rfl,⟨hw,_,y,hy,hyi⟩ | ⟨hs,rfl⟩⟩
      · rfl
      · refine jr ?_
        rcases hcl with hcl | hcl
        · rw [hw] at hcl
          rw [nK (UU (.inl hcl))] at hx
          simp at hx
        · intro e
          subst e
          exact hcl x hx y hy _ hk hyi
      · refine jr ?_
        intro e
        subst e
        exact hlive hs (huo x hx _ hk)
   have hmo:cls cx.P o.op= .m→hg (dE st.h u1)=hg st.h:=fun hm=> by rw [Er hd1 (hom hm)]; rfl
   rcases dH.1 ho with ⟨hg2,rfl⟩ | ⟨hg2,v2,u2,hd2,rfl⟩
   · simp only [go'] at hg2
     refine ⟨_,dH.2 (.inl ⟨hg2,rfl⟩),dH.2 (.inr ⟨by simp only [gq']; exact hg1,v1,u1,?_,?_⟩),fun h _=> ?_,fun h hn=> ?_⟩
     · simp only [lv (eq' bW)]; exact hd1
     · simp only [pc]
     · rw [hg2] at h; cases h
     · rw [zw (eq' bW)] at hn
       rw [wI (eq' bW)]
       exact hnq hg1 hn
   · unfold NC at hno
     simp only [go'] at hg2 hno
     have hno1:=hno hg2
     rw [zw (eo v1),wI (eo v1)] at hno1
     have hsm:eU cx.P (fo st.t) (hg (dE st.h u1)) o.op=true→ ∀ k∈eB cx.P (fo st.t) (hg (dE st.h u1)) o.op,hg (dE st.h u1) k=hg st.h k:=by
      intro hc k hkm
      obtain ⟨hmC,hk⟩:=hno1 hc
      obtain ⟨hw0,hm0⟩:=(yL hap).1 hmC
      rcases nU hd1 hm0 with rfl | ⟨i,b,rfl,⟨hw,_⟩ | ⟨hs,rfl⟩⟩
      · rfl
      · exact absurd hw hw0
      · refine jr ?_
        intro e
        subst e
        exact hlive hs (hk _ hkm).1
     have hno2:eU cx.P (fo st.t) (hg (dE st.h u1)) o.op=false∨ ∀ k∈eB cx.P (fo st.t) (hg (dE st.h u1)) o.op,hg (dE st.h u1) k=hg st.h k:=by
      cases hc:eU cx.P (fo st.t) (hg (dE st.h u1)) o.op with
      | false=> exact .inl rfl
      | true=> exact .inr (hsm hc)
     have hno3:eU cx.P (fo st.t) (hg st.h) o.op=true→zq∈A∧ ∀ k∈eB cx.P (fo st.t) (hg st.h) o.op,k∈A∧hg st.h k≠none:=by
      intro hn
      rw [← rX h1] at hn
      obtain ⟨hmC,hk⟩:=hno1 hn
      have hs:=hsm hn
      rw [p8 hs] at hk hs
      exact ⟨hmC,fun k hkm=> ⟨(hk k hkm).1,by rw [← hs k hkm]; exact (hk k hkm).2⟩⟩
     simp only [lv (eo v1)] at hd2
     rw [xJ hmo hno2 h1] at hd2
     have h2: ∀ x∈looks cx.P q.op, ∀ k,fE (fo st.t x)=some k→hg (dE st.h u2) k=hg st.h k:=by
      intro x hx k hk
      by_cases hm:cls cx.P o.op= .m
      · rw [nK (.inl (hom hm))] at hx
        simp at hx
      · rcases nU hd2 hm with rfl | ⟨i,b,rfl,⟨hw,_,y,hy,hyi⟩ | ⟨hs,rfl⟩⟩
        · rfl
        · refine jr ?_
          rcases hcl with hcl | hcl
          · rw [hw] at hcl
            rw [nK (UU (.inr hcl))] at hx
            simp at hx
          · intro e
            subst e
            exact hcl y hy x hx _ hyi hk
        · refine jr ?_
          intro e
          subst e
          have hqm':cls cx.P q.op≠ .m:=fun h=> by
           have:=hqm h
           simp [slots,this] at hs
          exact Ep hd1 hqm' x hx _ hk (avi hs)
     have hmq:cls cx.P q.op= .m→hg (dE st.h u2)=hg st.h:=fun hm=> by rw [Er hd2 (hqm hm)]; rfl
     have hsq:eU cx.P (fo st.t) (hg st.h) q.op=true→ ∀ k∈eB cx.P (fo st.t) (hg st.h) q.op,hg st.h k=hg (dE st.h u2) k:=by
      intro hc k hkm
      obtain ⟨hmC,hk⟩:=hnq hg1 hc
      obtain ⟨hw0,hm0⟩:=(yL hap).2 hmC
      rcases nU hd2 hm0 with rfl | ⟨i,b,rfl,⟨hw,_⟩ | ⟨hs,rfl⟩⟩
      · rfl
      · exact absurd hw hw0
      · refine (jr ?_).symm
        intro e
        subst e
        exact (hk _ hkm).2 (avi hs)
     have hnq2:eU cx.P (fo st.t) (hg (dE st.h u2)) q.op=false∨ ∀ k∈eB cx.P (fo st.t) (hg (dE st.h u2)) q.op,hg (dE st.h u2) k=hg st.h k:=by
      cases hc:eU cx.P (fo st.t) (hg st.h) q.op with
      | false=> exact .inl (by rw [rX h2]; exact hc)
      | true=>
        refine .inr fun k hkm=> ?_
        rw [← p8 (hsq hc)] at hkm
        exact (hsq hc k hkm).symm
     refine ⟨_,dH.2 (.inr ⟨hg2,v2,u2,hd2,rfl⟩),dH.2 (.inr ⟨by simp only [gq']; exact hg1,v1,u1,?_,?_⟩),fun _=> hno3,fun _ hn=> ?_⟩
     · simp only [lv (eq' v2)]
       rw [xJ hmq hnq2 h2]
       exact hd1
     rotate_left 1
     · rw [zw (eq' v2),rX h2] at hn
       obtain ⟨hmC,hk⟩:=hnq hg1 hn
       rw [wI (eq' v2)]
       refine ⟨hmC,fun k hkm=> ?_⟩
       have hkm2:k∈eB cx.P (fo st.t) (hg st.h) q.op:=by rw [p8 (hsq hn)]; exact hkm
       refine ⟨(hk k hkm2).1,?_⟩
       show hg (dE st.h u2) k≠none
       rw [← hsq hn k hkm2]
       exact (hk k hkm2).2
     · simp only [pc]
       congr 1
       by_cases hm1:cls cx.P q.op= .m
       · rw [Er hd2 (hqm hm1)]; rfl
       by_cases hm2:cls cx.P o.op= .m
       · rw [Er hd1 (hom hm2)]; rfl
       rcases nU hd1 hm1 with rfl | ⟨i,b,rfl,hu1⟩
       · rfl
       rcases nU hd2 hm2 with rfl | ⟨j,c,rfl,hu2⟩
       · rfl
       simp only [dE]
       refine List.set_comm _ _ ?_
       rcases hu1 with ⟨hw,hl,y,hy,hyi⟩ | ⟨hs,rfl⟩<;> rcases hu2 with ⟨hw',hl',y',hy',hyi'⟩ | ⟨hs',rfl⟩
       · rcases hcl with hcl | hcl
         · rw [hw,hw'] at hcl; simp [wY] at hcl
         · intro e; subst e; exact hcl y' hy' y hy _ hyi' hyi
       · intro e; subst e; exact hl (avi hs')
       · intro e; subst e; exact hl' (avj hs)
       · exact (hne hs' hs).symm

theorem gp {cx:Cx} {op:Op} {e e':Operand→V} (h: ∀ x∈op.operands.toList,e x=e' x):fu cx e op=fu cx e' op:=by
 cases op with
 | call c=>
   obtain ⟨cl,args,ats⟩:=c
   cases cl with
   | value f=>
     have h1:args.toList.map e=args.toList.map e':=lH fun x hx=> h x (by
      simp only [Op.operands,Call.operands,Array.toList_append,List.mem_append]; exact .inr hx)
     have h3:e f=e' f:=h f (by simp [Op.operands,Call.operands])
     simp only [fu,CU,h3,← h1]
   | invoke r m=> rfl
   | builtin b=> rfl
 | _=> rfl

theorem uw {cx:Cx} {op:Op} {e:Operand→V} (h:cls cx.P op= .p):fu cx e op=none:=by
 cases op with
 | call c=>
   obtain ⟨cl,args,ats⟩:=c
   cases cl with
   | value f=> simp [cls,isLen,abO] at h
   | invoke r m=> rfl
   | builtin b=> rfl
 | _=> rfl

theorem Dw {cx:Cx} {all:List Oper} {o:Oper} {id:Nat} {st st':St} (hp:cls cx.P o.op= .p) (h:StepB cx all o id st st'):
 ∃ v,st'=⟨bR st.t o.dst v,st.h⟩∧ ∀ (t:List V) (h':Hp) (id':Nat),(∀ x∈o.op.operands.toList,fo t x=fo st.t x)→bO all o t=bO all o st.t→StepB cx all o id' ⟨t,h'⟩ ⟨bR t o.dst v,h'⟩:=by
 rcases dH.1 h with ⟨hgu,rfl⟩ | ⟨hgu,v,u,hd,rfl⟩
 · exact ⟨bW,rfl,fun t h' id' _ hgd=> .skip (by simp only [hgd]; exact hgu)⟩
 · have hu:=Er hd hp
   subst hu
   refine ⟨v,rfl,fun t h' id' he hgd=> ?_⟩
   refine dH.2 (.inr ⟨by simp only [hgd]; exact hgu,v,[],?_,rfl⟩)
   have e1:oG cx o.op (fo st.t) (hg st.h) id=oG cx o.op (fo t) (hg h') id':=by
    rw [lv (e:=fo st.t) (e':=fo t) (fun x hx=> (he x hx).symm)]
    unfold oG
    rw [hp]
   rw [e1] at hd
   cases hd with
   | st a b=> exact .st a b
   | nw0 a b=> exact .nw0 a b
   | mv a b=> exact .mv a b

theorem XD {cx:Cx} {all:List Oper} {o:Oper} {id:Nat} {st st':St} (h:StepB cx all o id st st'):
 ∃ v us,st'=⟨bR st.t o.dst v,dE st.h us⟩∧ ∀ (t:List V),(∀ x∈o.op.operands.toList,fo t x=fo st.t x)→bO all o t=bO all o st.t→StepB cx all o id ⟨t,st.h⟩ ⟨bR t o.dst v,dE st.h us⟩:=by
 rcases dH.1 h with ⟨hgu,rfl⟩ | ⟨hgu,v,u,hd,rfl⟩
 · exact ⟨bW,[],rfl,fun t _ hgd=> .skip (by simp only [hgd]; exact hgu)⟩
 · refine ⟨v,u,rfl,fun t he hgd=> ?_⟩
   refine dH.2 (.inr ⟨by simp only [hgd]; exact hgu,v,u,?_,rfl⟩)
   rw [lv (e:=fo t) (e':=fo st.t) he]
   exact hd

theorem Aq {g g':Nat→Option bQ} {as:List V} (h: ∀ k∈bz g as,g k=g' k):bz g as=bz g' as:=
 gW fun v hv=> (tV fun k hk=> h k (List.mem_flatMap.2 ⟨v,hv,hk⟩)).2

theorem UD {p:Option bQ→Bool} {b:Option bQ} (hb:p b=true) (hn:p none=true): ∀ (h:Hp) (i:Nat),hg h i=none→(h.set i b).all p=h.all p
 | [],_,_=> rfl
 | c::h,0,hi=> by
   have:c=none:=hi
   subst this
   simp only [List.set_cons_zero,List.all_cons,hb,hn]
 | c::h,i+1,hi=> by
   simp only [List.set_cons_succ,List.all_cons,UD hb hn h i hi]

theorem BO {ro:Nat} {h:Hp} {K:List Nat} {as:List V} {i:Nat} {b:bQ} (hi:hg h i=none) (hk:eP K i=false) (hb:nu b.c=true):iQ ro (h.set i (some b)) K as=iQ ro h K as:=by
 unfold iQ
 rw [UD (by exact hb) rfl h i hi]
 congr 2
 rw [Bool.eq_iff_iff,List.all_eq_true,List.all_eq_true]
 have: ∀ k∈K,hg (h.set i (some b)) k=hg h k:=fun k hkm=> jr fun e=> by
  subst e
  rw [mi.2 hkm] at hk; cases hk
 constructor
 · intro h1 k hkm; rw [← this k hkm]; exact h1 k hkm
 · intro h1 k hkm; rw [this k hkm]; exact h1 k hkm

theorem Hg {rw:Bool} {P:Program} {op:Op} {e:Operand→V} {id:Nat} {chk:List Bool} {v:V} {b:bQ} (hb:kP op=true) (h:jO rw P op e id=some (chk,v,b)):nu b.c=true:=by
 have h0: ∀ {op:Op},kP op=true→jb rw P op e id=some (chk,v,b)→nu b.c=true:=by
  intro op hb h
  cases op with
  | box t x=> cases hb
  | alloc t=>
    simp only [jb] at h
    split at h<;> cases h
    rfl
  | buildSlice t n ps=>
    simp only [jb] at h
    (repeat' split at h)<;> cases h
    rfl
  | makeSlice t a b=>
    simp only [jb] at h
    (repeat' split at h)<;> cases h
    all_goals rfl
  | _=> simp only [jb] at h; cases h
 unfold jO at h
 split at h
 · (repeat' split at h)<;> cases h
   rfl
 · exact h0 hb h

theorem abn {cx:Cx} {op:Op} {e:Operand→V} {g:Nat→Option bQ} {id i:Nat} {b:bQ} {v:V} (hc:cls cx.P op= .a) (hb:kP op=true) (h:Does (oG cx op e g id) id v [(i,b)]):nu b.c=true:=by
 have he:oG cx op e g id=Hd cx op e id:=by unfold oG; rw [hc]
 rw [he] at h
 unfold Hd at h
 cases h1:jO cx.rw cx.P op e id with
 | none=>
   rw [h1] at h
   cases h with
   | wr h2 _=> cases h2
   | nw1 h2 _=> cases h2
   | mv h2 _=> cases h2
 | some q=>
   obtain ⟨chk,v',b'⟩:=q
   rw [h1] at h
   cases h with
   | wr h2 _=> cases h2
   | nw1 h2 _=> cases h2; exact Hg hb h1
   | mv h2 _=> cases h2

theorem XC {cx:Cx} {all:List Oper} {o:Oper} {id:Nat} {st st':St} (hp:cls cx.P o.op= .p∨cls cx.P o.op= .r∨(cls cx.P o.op= .a∧kP o.op=true)) (h:StepB cx all o id st st'):
 (bO all o st.t=some true→ ∀ x∈looks cx.P o.op, ∀ k,fE (fo st.t x)=some k→hg st.h k≠none)∧
 ∃ v us,st'=⟨bR st.t o.dst v,dE st.h us⟩∧(us= []∨ ∃ b,us= [(id,b)]∧slots cx.P o.op=1∧nu b.c=true)∧ ∀ (t:List V) (h':Hp),(∀ x∈o.op.operands.toList,fo t x=fo st.t x)→bO all o t=bO all o st.t→
   (bO all o st.t=some true→ ∀ x∈looks cx.P o.op, ∀ k,fE (fo st.t x)=some k→hg h' k=hg st.h k)→StepB cx all o id ⟨t,h'⟩ ⟨bR t o.dst v,dE h' us⟩:=by
 have hm:cls cx.P o.op≠ .m:=by rcases hp with hp | hp | ⟨hp,_⟩<;> (rw [hp]; exact fun e=> nomatch e)
 have hw:cls cx.P o.op≠ .w:=by rcases hp with hp | hp | ⟨hp,_⟩<;> (rw [hp]; exact fun e=> nomatch e)
 have hx:cls cx.P o.op≠ .x:=by rcases hp with hp | hp | ⟨hp,_⟩<;> (rw [hp]; exact fun e=> nomatch e)
 rcases dH.1 h with ⟨hgu,rfl⟩ | ⟨hgu,v,u,hd,rfl⟩
 · exact ⟨fun e=> (by rw [hgu] at e; cases e),bW,[],rfl, .inl rfl,fun t h' _ hgd _=> .skip (by simp only [hgd]; exact hgu)⟩
 · refine ⟨fun _=> Ep hd hm,v,u,rfl,?_,fun t h' he hgd hlk=> ?_⟩
   · rcases nU hd hm with e | ⟨i,b,e,⟨e2,_⟩ | ⟨e2,e3⟩⟩
     · exact .inl e
     · exact absurd e2 hw
     · subst e3
       refine .inr ⟨b,e,e2,?_⟩
       subst e
       rcases hp with hp | hp | ⟨hp,hb⟩
       · unfold slots at e2; rw [hp] at e2; cases e2
       · unfold slots at e2; rw [hp] at e2; cases e2
       · exact abn hp hb hd
   · refine dH.2 (.inr ⟨by simp only [hgd]; exact hgu,v,u,?_,rfl⟩)
     have hn:eU cx.P (fo st.t) (hg h') o.op=false:=by
      cases hc:eU cx.P (fo st.t) (hg h') o.op with
      | false=> rfl
      | true=> exact absurd (Ol hc) hx
     have e1:oG cx o.op (fo t) (hg h') id=oG cx o.op (fo st.t) (hg st.h) id:=by
      rw [lv (e:=fo t) (e':=fo st.t) he]
      exact xJ (fun e=> absurd e hm) (.inl hn) (hlk hgu)
     rw [e1]
     exact hd

theorem zh {cx:Cx} {op:Op} {e:Operand→V} (h:cls cx.P op= .p∨cls cx.P op= .r∨(cls cx.P op= .a∧kP op=true)):fu cx e op=none:=by
 cases op with
 | call c=>
   obtain ⟨cl,args,ats⟩:=c
   cases cl with
   | value f=> simp [cls,isLen,abO] at h
   | invoke r m=> rfl
   | builtin b=> rfl
 | _=> rfl

theorem swap {J:JT} {cx:Cx} {all:List Oper} {o q:Oper} {idi idj:Nat} {st s1 s2:St} {A B:List Nat} (hq:kg J cx all q idj st s1) (ho:kg J cx all o idi s1 s2) (hap:apart cx.P A B all o q=true)
 (huo: ∀ x∈looks cx.P o.op, ∀ k,fE (fo st.t x)=some k→k∈A) (huq: ∀ x∈looks cx.P q.op, ∀ k,fE (fo st.t x)=some k→k∈B)
 (hmo:pI cx all s1 o A) (hmq:pI cx all st q B) (hno:mO cx all s1 o A) (hnq:mO cx all st q B)
 (hlive:slots cx.P q.op=1→idj ∉ A) (hold:mV∈B→ ∀ k∈A,k<st.h.length) (lti:slots cx.P o.op=1→idi<st.h.length) (ltj:slots cx.P q.op=1→idj<st.h.length)
 (avi:slots cx.P o.op=1→hg st.h idi=none) (avj:slots cx.P q.op=1→hg st.h idj=none) (hne:slots cx.P o.op=1→slots cx.P q.op=1→idi≠idj):
 ∃ s1',kg J cx all o idi st s1'∧kg J cx all q idj s1' s2∧(pI cx all st o A∧mO cx all st o A)∧(pI cx all s1' q B∧mO cx all s1' q B):=by
 obtain ⟨_,hdo,hdq⟩:=tT hap
 obtain ⟨hm1,hm2⟩:=MV hap
 obtain ⟨he1,he2,hfar⟩:=Kc hap
 have eo: ∀ v, ∀ x∈o.op.operands.toList,fo (bR st.t q.dst v) x=fo st.t x:=fun v x hx=> vC hx fun n hn=> nN (hdq n hn)
 have eq': ∀ v, ∀ x∈q.op.operands.toList,fo (bR st.t o.dst v) x=fo st.t x:=fun v x hx=> vC hx fun n hn=> nN (hdo n hn).1
 have go': ∀ v,bO all o (bR st.t q.dst v)=bO all o st.t:=fun v=> rR hdq
 have gq': ∀ v,bO all q (bR st.t o.dst v)=bO all q st.t:=fun v=> rR fun n hn=> (hdo n hn).1
 have pc: ∀ v v',bR (bR st.t q.dst v) o.dst v'=bR (bR st.t o.dst v') q.dst v:=fun v v'=> Jo fun n hn=> by
  intro h; exact (hdo n h).2 hn
 obtain ⟨vq,hvq⟩:=hq.tmps
 have ilo:fu cx (fo s1.t) o.op=fu cx (fo st.t) o.op:=by rw [hvq]; exact gp (eo vq)
 -- every step is a plain one, or a body in place
 have split: ∀ {o:Oper} {id:Nat} {s s':St},kg J cx all o id s s'→(StepB cx all o id s s'∧(bO all o s.t=some false∨fu cx (fo s.t) o.op=none))∨
  ∃ f as v h,bO all o s.t=some true∧fu cx (fo s.t) o.op=some (f,as)∧((cx.ex f=false∧J f as s.h v h∧kr s.h h=true∧s'=⟨bR s.t o.dst v,h⟩)∨
    (cx.ex f=true∧iQ cx.ro s.h (bz (hg s.h) as) as=true∧J f as (gZ (bz (hg s.h) as) 0 s.h) v h∧kr (gZ (bz (hg s.h) as) 0 s.h) h=true∧s'=⟨bR s.t o.dst v,fK (bz (hg s.h) as) 0 s.h h⟩)):=by
  intro o id s s' h
  cases h with
  | base h1 h2=> exact .inl ⟨h2, .inr h1⟩
  | skip h1=> exact .inl ⟨.skip h1, .inl h1⟩
  | il h1 h2 h3 h4 h5=> exact .inr ⟨_,_,_,_,h1,h2, .inl ⟨h3,h4,h5,rfl⟩⟩
  | ilx h1 h2 h3 h4 h5 h6=> exact .inr ⟨_,_,_,_,h1,h2, .inr ⟨h3,h4,h5,h6,rfl⟩⟩
 have back: ∀ {o:Oper} {id:Nat} {s s':St},StepB cx all o id s s'→(bO all o s.t=some false∨fu cx (fo s.t) o.op=none)→kg J cx all o id s s':=by
  intro o id s s' h h'
  rcases h' with h' | h'
  · have:s'=⟨bR s.t o.dst bW,s.h⟩:=by
     rcases dH.1 h with ⟨_,e⟩ | ⟨e,_⟩
     · exact e
     · rw [h'] at e; cases e
    rw [this]; exact .skip h'
  · exact .base h' h
 have MO: ∀ {o:Oper} {s:St},cls cx.P o.op= .p→ ¬ J6 cx all s o:=by
  rintro o s hp ⟨_,r,hr⟩
  rw [uw hp] at hr; cases hr
 have unn: ∀ {o:Oper} {s:St} {C:List Nat},cls cx.P o.op= .p→mO cx all s o C:=fun hp _ _ h=> by
  rw [ab5 hp] at h; cases h
 have unmf: ∀ {o:Oper} {s:St},(cls cx.P o.op= .p∨cls cx.P o.op= .r∨(cls cx.P o.op= .a∧kP o.op=true))→ ¬ J6 cx all s o:=by
  rintro o s hp ⟨_,r,hr⟩
  rw [zh hp] at hr; cases hr
 have unnf: ∀ {o:Oper} {s:St} {C:List Nat},(cls cx.P o.op= .p∨cls cx.P o.op= .r∨(cls cx.P o.op= .a∧kP o.op=true))→mO cx all s o C:=fun hp _ _ h=> by
  have:=Ol h
  rcases hp with hp | hp | ⟨hp,_⟩<;> (rw [hp] at this; cases this)
 have inl: ∀ {o:Oper} {s:St} {C:List Nat},nX∈C→pI cx all s o C∧mO cx all s o C:=fun h=> ⟨fun _=> .inl h,fun _ _ _=> .inl h⟩
 rcases split hq with ⟨hqb,hqn⟩ | ⟨f,as,v,h,g1,g2,hQ⟩
 · rcases split ho with ⟨hob,hon⟩ | ⟨f,as,v,h,g1,g2,hO⟩
   · by_cases hA:nX∈A
     · -- the earlier one touches no memory
       have hp:=hm1 hA
       obtain ⟨v1,rfl,hmove⟩:=Dw hp hqb
       obtain ⟨v2,u2,rfl,hmv⟩:=XD hob
       refine ⟨⟨bR st.t o.dst v2,dE st.h u2⟩,back (hmv st.t (fun x hx=> (eo v1 x hx).symm) (go' v1).symm) ?_,?_,inl hA,⟨fun h=> absurd h (MO hp),unn hp⟩⟩
       · rw [ilo] at hon
         simp only [go'] at hon
         exact hon
       · rw [show (⟨bR (bR st.t q.dst v1) o.dst v2,dE st.h u2⟩:St)=⟨bR (bR st.t o.dst v2) q.dst v1,dE st.h u2⟩ by rw [pc]]
         exact .base (uw hp) (hmove _ _ _ (eq' v2) (gq' v2))
     by_cases hB:nX∈B
     · have hp:=hm2 hB
       obtain ⟨v2,e2,hmove⟩:=Dw hp hob
       subst e2
       obtain ⟨v1,u1,rfl,hmv⟩:=XD hqb
       refine ⟨⟨bR st.t o.dst v2,st.h⟩, .base (uw hp) (hmove st.t st.h idi (fun x hx=> (eo v1 x hx).symm) (go' v1).symm),?_,⟨fun h=> absurd h (MO hp),unn hp⟩,inl hB⟩
       simp only [pc]
       refine back (hmv (bR st.t o.dst v2) (eq' v2) (gq' v2)) ?_
       simp only [gq',gp (eq' v2)]
       exact hqn
     have hn1:NC cx all s1 o A:=fun g n=> (hno g (hon.resolve_left (by rw [g]; exact fun e=> nomatch e)) n).resolve_left hA
     have hn2:NC cx all st q B:=fun g n=> (hnq g (hqn.resolve_left (by rw [g]; exact fun e=> nomatch e)) n).resolve_left hB
     obtain ⟨s1',h1,h2,h3,h4⟩:=al1 hqb hob hap huo huq hlive avi avj hne hn1 hn2
     have hgo:bO all o s1.t=bO all o st.t:=by rw [hvq,go']
     have hq1:bO all q s1'.t=some false∨fu cx (fo s1'.t) q.op=none:=by
      obtain ⟨vo,hvo⟩:=h1.tmps
      rw [hvo,gq',gp (eq' vo)]
      exact hqn
     have ho1:bO all o st.t=some false∨fu cx (fo st.t) o.op=none:=by
      rw [ilo,hgo] at hon; exact hon
     refine ⟨s1',back h1 ho1,back h2 hq1,⟨?_,fun g _ n=> .inr (h3 g n)⟩,⟨?_,fun g _ n=> .inr (h4 g n)⟩⟩
     · rintro ⟨hgd,r,hr⟩
       rcases ho1 with e | e
       · rw [e] at hgd; cases hgd
       · rw [e] at hr; cases hr
     · rintro ⟨hgd,r,hr⟩
       rcases hq1 with e | e
       · rw [e] at hgd; cases hgd
       · rw [e] at hr; cases hr
   · -- the later one is a body in place
     have hM:=hmo ⟨g1,_,g2⟩
     rw [ilo] at g2
     rw [hvq,go'] at g1
     rcases hO with ⟨hx,g3,g4,rfl⟩ | ⟨hx,g3,g4,g5,rfl⟩
     · have hA:nX∈A:=by
        rcases hM with hM | ⟨_,hM⟩
        · exact hM
        · have:=(hM f as (by rw [ilo]; exact g2)).1
          rw [hx] at this; cases this
       have hp:=hm1 hA
       obtain ⟨v1,rfl,hmove⟩:=Dw hp hqb
       refine ⟨⟨bR st.t o.dst v,h⟩, .il g1 g2 hx g3 g4,?_,inl hA,⟨fun h=> absurd h (MO hp),unn hp⟩⟩
       rw [show (⟨bR (bR st.t q.dst v1) o.dst v,h⟩:St)=⟨bR (bR st.t o.dst v) q.dst v1,h⟩ by rw [pc]]
       exact .base (uw hp) (hmove _ _ _ (eq' v) (gq' v))
     · have hpf:cls cx.P q.op= .p∨cls cx.P q.op= .r∨(cls cx.P q.op= .a∧kP q.op=true):=by
        rcases hM with hM | ⟨hM,_⟩
        · exact .inl (hm1 hM)
        · exact he1 hM
       obtain ⟨hlv,v1,u1,rfl,hu,hmove⟩:=XC hpf hqb
       simp only at g3 g4 g5 hM
       have hKA:cls cx.P q.op= .p∨(mV∈A∧ ∀ k∈bz (hg (dE st.h u1)) as,k∈A):=by
        rcases hM with hM | ⟨hM,h2⟩
        · exact .inl (hm1 hM)
        · exact .inr ⟨hM,(h2 f as (by rw [← g2]; exact gp (eo v1))).2⟩
       have hup:u1= []∨ ∃ b,u1= [(idj,b)]∧slots cx.P q.op=1∧nu b.c=true∧eP (bz (hg (dE st.h u1)) as) idj=false:=by
        rcases hu with e | ⟨b,e1,e2,e3⟩
        · exact .inl e
        · rcases hKA with hp | ⟨hE,hk⟩
          · unfold slots at e2; rw [hp] at e2; cases e2
          · refine .inr ⟨b,e1,e2,e3,?_⟩
            cases hm:eP (bz (hg (dE st.h u1)) as) idj with
            | false=> rfl
            | true=> exact absurd (hk _ (mi.1 hm)) (hlive e2)
       have hKe:bz (hg (dE st.h u1)) as=bz (hg st.h) as:=by
        refine Aq fun k hk=> ?_
        rcases hup with e | ⟨b,e1,_,_,e4⟩
        · rw [e]; rfl
        · rw [e1]
          refine jr fun e=> ?_
          rw [← e,mi.2 hk] at e4
          cases e4
       have hme:gZ (bz (hg (dE st.h u1)) as) 0 (dE st.h u1)=gZ (bz (hg st.h) as) 0 st.h:=by
        rcases hup with e | ⟨b,e1,_,_,e4⟩
        · rw [hKe,e]; rfl
        · rw [hKe] at e4 ⊢
          rw [e1]
          exact A9 _ _ _ _ _ (by rw [Nat.zero_add]; exact e4)
       have hce:iQ cx.ro (dE st.h u1) (bz (hg (dE st.h u1)) as) as=iQ cx.ro st.h (bz (hg st.h) as) as:=by
        rcases hup with e | ⟨b,e1,e2,e3,e4⟩
        · rw [hKe,e]; rfl
        · rw [hKe] at e4 ⊢
          rw [e1]
          exact BO (avj e2) e4 e3
       have hje:fK (bz (hg (dE st.h u1)) as) 0 (dE st.h u1) h=dE (fK (bz (hg st.h) as) 0 st.h h) u1:=by
        rcases hup with e | ⟨b,e1,e2,e3,e4⟩
        · rw [hKe,e]; rfl
        · rw [hKe] at e4 ⊢
          rw [e1]
          exact AX _ _ _ _ _ _ (by rw [Nat.zero_add]; exact e4) (ltj e2)
       rw [hme] at g4 g5
       rw [hce] at g3
       have hlen:=qz g5
       rw [ku] at hlen
       have hMo:pI cx all st o A∧mO cx all st o A:=by
        refine ⟨fun _=> ?_,fun _ e _=> by rw [g2] at e; cases e⟩
        rcases hM with hM | ⟨hM,h2⟩
        · exact .inl hM
        · refine .inr ⟨hM,fun f' as' e=> ?_⟩
          have h3:=h2 f' as' (by rw [← e]; exact gp (eo v1))
          rw [g2] at e
          cases e
          rw [hKe] at h3
          exact h3
       refine ⟨⟨bR st.t o.dst v,fK (bz (hg st.h) as) 0 st.h h⟩, .ilx g1 g2 hx g3 g4 g5,?_,hMo,⟨fun h=> absurd h (unmf hpf),unnf hpf⟩⟩
       rw [show (⟨bR (bR st.t q.dst v1) o.dst v,fK (bz (hg (dE st.h u1)) as) 0 (dE st.h u1) h⟩:St)=⟨bR (bR st.t o.dst v) q.dst v1,dE (fK (bz (hg st.h) as) 0 st.h h) u1⟩ by rw [pc,hje]]
       refine .base (zh hpf) (hmove _ _ (eq' v) (gq' v) fun hgd x hx' k hk=> ?_)
       have hl:=hlv hgd x hx' k hk
       have hkl:k<st.h.length:=by
        rcases Nat.lt_or_ge k st.h.length with hlt | hge
        · exact hlt
        · refine absurd ?_ hl
          unfold hg
          rw [List.getD_eq_getElem?_getD,List.getElem?_eq_none hge]; rfl
       have hkK:eP (bz (hg st.h) as) k=false:=by
        rcases hKA with hp | ⟨hE,hk2⟩
        · rw [nK (.inl hp)] at hx'
          simp at hx'
        · cases hm:eP (bz (hg st.h) as) k with
          | false=> rfl
          | true=>
            rw [hKe] at hk2
            exact absurd (huq x hx' k hk) (C8 (hfar (.inl hE)) (hk2 k (mi.1 hm)))
       rw [vN _ hlen,if_pos hkl,hkK]
       rfl
 · -- the earlier one is a body in place
   have hM:=hmq ⟨g1,_,g2⟩
   rcases split ho with ⟨hob,hon⟩ | ⟨f',as',v',h',_,e2,_⟩
   rotate_left 1
   · exfalso
     have hpf:cls cx.P o.op= .p∨cls cx.P o.op= .r∨(cls cx.P o.op= .a∧kP o.op=true):=by
      rcases hM with hM | ⟨hM,_⟩
      · exact .inl (hm2 hM)
      · exact he2 hM
     rw [zh hpf] at e2
     cases e2
   rcases hQ with ⟨hx,g3,g4,rfl⟩ | ⟨hx,g3,g4,g5,rfl⟩
   · have hB:nX∈B:=by
      rcases hM with hM | ⟨_,hM⟩
      · exact hM
      · have:=(hM f as g2).1
        rw [hx] at this; cases this
     have hp:=hm2 hB
     obtain ⟨v2,e2,hmove⟩:=Dw hp hob
     subst e2
     refine ⟨⟨bR st.t o.dst v2,st.h⟩, .base (uw hp) (hmove st.t st.h idi (fun x hx=> (eo v x hx).symm) (go' v).symm),?_,⟨fun h=> absurd h (MO hp),unn hp⟩,inl hB⟩
     simp only [pc]
     refine .il (by simp only [gq']; exact g1) ?_ hx g3 g4
     rw [gp (eq' v2)]
     exact g2
   · have hpf:cls cx.P o.op= .p∨cls cx.P o.op= .r∨(cls cx.P o.op= .a∧kP o.op=true):=by
      rcases hM with hM | ⟨hM,_⟩
      · exact .inl (hm2 hM)
      · exact he2 hM
     obtain ⟨_,_,hKl,_⟩:=wX g3
     have hlen:=qz g5
     rw [ku] at hlen
     obtain ⟨hlv,v2,u2,e2,hu,hmove⟩:=XC hpf hob
     subst e2
     have hup:u2= []∨ ∃ b,u2= [(idi,b)]∧slots cx.P o.op=1∧nu b.c=true∧eP (bz (hg st.h) as) idi=false:=by
      rcases hu with e | ⟨b,e1,e2,e3⟩
      · exact .inl e
      · refine .inr ⟨b,e1,e2,e3,?_⟩
        cases hm:eP (bz (hg st.h) as) idi with
        | false=> rfl
        | true=>
          obtain ⟨b',hb',_⟩:=hKl _ (mi.1 hm)
          rw [avi e2] at hb'; cases hb'
     have hKe:bz (hg (dE st.h u2)) as=bz (hg st.h) as:=by
      refine (Aq fun k hk=> ?_).symm
      rcases hup with e | ⟨b,e1,_,_,e4⟩
      · rw [e]; rfl
      · rw [e1]
        refine (jr fun e=> ?_).symm
        rw [← e,mi.2 hk] at e4
        cases e4
     have hme:gZ (bz (hg st.h) as) 0 (dE st.h u2)=gZ (bz (hg st.h) as) 0 st.h:=by
      rcases hup with e | ⟨b,e1,_,_,e4⟩
      · rw [e]; rfl
      · rw [e1]
        exact A9 _ _ _ _ _ (by rw [Nat.zero_add]; exact e4)
     have hce:iQ cx.ro (dE st.h u2) (bz (hg st.h) as) as=iQ cx.ro st.h (bz (hg st.h) as) as:=by
      rcases hup with e | ⟨b,e1,e2,e3,e4⟩
      · rw [e]; rfl
      · rw [e1]
        exact BO (avi e2) e4 e3
     have hje:fK (bz (hg st.h) as) 0 (dE st.h u2) h=dE (fK (bz (hg st.h) as) 0 st.h h) u2:=by
      rcases hup with e | ⟨b,e1,e2,e3,e4⟩
      · rw [e]; rfl
      · rw [e1]
        exact AX _ _ _ _ _ _ (by rw [Nat.zero_add]; exact e4) (lti e2)
     have hMq:pI cx all ⟨bR st.t o.dst v2,dE st.h u2⟩ q B∧mO cx all ⟨bR st.t o.dst v2,dE st.h u2⟩ q B:=by
      have hil:fu cx (fo (bR st.t o.dst v2)) q.op=some (f,as):=by rw [gp (eq' v2)]; exact g2
      refine ⟨fun _=> ?_,fun _ e _=> ?_⟩
      · rcases hM with hM | ⟨hM,h2⟩
        · exact .inl hM
        · refine .inr ⟨hM,fun f' as' e=> ?_⟩
          simp only [hil] at e
          cases e
          have h3:=h2 f as g2
          rw [← hKe] at h3
          exact h3
      · simp only [hil] at e
        cases e
     refine ⟨⟨bR st.t o.dst v2,dE st.h u2⟩, .base (zh hpf) (hmove st.t st.h (fun x hx=> (eo v x hx).symm) (go' v).symm fun hgd x hx' k hk=> ?_),?_,⟨fun h=> absurd h (unmf hpf),unnf hpf⟩,hMq⟩
     · have hk':fE (fo st.t x)=some k:=by rw [← eo v x (A8 x hx')]; exact hk
       have hkA:=huo x hx' k hk'
       rcases hM with hM | ⟨hE,hk2⟩
       · rw [nK (.inl (hm2 hM))] at hx'
         simp at hx'
       · have hkK:eP (bz (hg st.h) as) k=false:=by
          cases hm:eP (bz (hg st.h) as) k with
          | false=> rfl
          | true=> exact absurd ((hk2 f as g2).2 k (mi.1 hm)) (C8 (hfar (.inr hE)) hkA)
         rw [vN _ hlen,if_pos (hold hE k hkA),hkK]
         rfl
     · rw [show (⟨bR (bR st.t q.dst v) o.dst v2,dE (fK (bz (hg st.h) as) 0 st.h h) u2⟩:St)=⟨bR (bR st.t o.dst v2) q.dst v,fK (bz (hg (dE st.h u2)) as) 0 (dE st.h u2) h⟩ by rw [pc,hKe,hje]]
       refine .ilx (by simp only [gq']; exact g1) (by rw [gp (eq' v2)]; exact g2) hx ?_ ?_ ?_
       · simp only [hKe,hce]; exact g3
       · simp only [hKe,hme]; exact g4
       · simp only [hKe,hme]; exact g5

theorem O5: ∀ (us:List (Nat × bQ)) (h:Hp),(dE h us).length=h.length
 | [],_=> rfl
 | (_,_)::us,h=> by rw [dE,O5 us,List.length_set]
theorem kg.len {J:JT} {cx:Cx} {all:List Oper} {o:Oper} {id:Nat} {st st':St} (h:kg J cx all o id st st'):st.h.length≤st'.h.length:=by
 cases h with
 | base _ hb=>
   rcases dH.1 hb with ⟨_,rfl⟩ | ⟨_,v,u,_,rfl⟩
   · exact Nat.le_refl _
   · exact Nat.le_of_eq (O5 u st.h).symm
 | skip _=> exact Nat.le_refl _
 | il _ _ _ _ hk=> exact qz hk
 | ilx _ _ _ _ _ hk=>
   have hl:=qz hk
   rw [ku] at hl
   show _≤(fK _ _ _ _).length
   rw [AV _ _ _ _ hl]
   exact hl

theorem front {J:JT} {cx:Cx} {all:List Oper} {base i:Nat} {o:Oper} {tr:List (List Nat)} (hi:all[i]? =some o): ∀ {pre post:List Nat} {st st':St},
 BL J cx all base tr (pre++i::post) st st'→(∀ j∈pre, ∀ q,all[j]? =some q→j≠i∧apart cx.P (tr.getD i []) (tr.getD j []) all o q=true∧(slots cx.P q.op=1→xk cx.P base all j ∉ tr.getD i [])∧(mV∈tr.getD j []→ ∀ k∈tr.getD i [],k<base))→(pre++i::post).Nodup→base≤st.h.length→
 BK cx.P all base (pre++i::post) st.h→
 ∃ s1,kg J cx all o (xk cx.P base all i) st s1∧BL J cx all base tr (pre++post) s1 st'∧(∀ x∈looks cx.P o.op, ∀ k,fE (fo st.t x)=some k→k∈tr.getD i [])∧pI cx all st o (tr.getD i [])∧mO cx all st o (tr.getD i [])
 | [],post,st,st', .cons hi' hu hmu hnk hs hc,_,_,_,_=> by
   rw [hi] at hi'
   cases hi'
   exact ⟨_,hs,hc,hu,hmu,hnk⟩
 | j::pre,post,st,st', .cons (s1:=s1) hj hu hmu hnk hs hc,hap,hnd,hbl,hav=> by
   rename_i q
   obtain ⟨hne,hapj,hfj,hej⟩:=hap j (by simp) q hj
   obtain ⟨hn1,hn2⟩:=List.nodup_cons.1 hnd
   have hav1:=hs.Iy hj hav (rem':=pre++i::post) (fun k hk=> ⟨by simp only [List.cons_append]; exact List.mem_cons_of_mem _ hk,fun e=> hn1 (e ▸ hk)⟩)
   obtain ⟨_,hdo,hdq⟩:=tT hapj
   have hsame: ∀ x∈looks cx.P o.op,fo s1.t x=fo st.t x:=by
    intro x hx
    obtain ⟨v,hv⟩:=hs.tmps
    rw [hv]
    exact vC (A8 x hx) fun n hn=> nN (hdq n hn)
   obtain ⟨s2,hs2,hc2,hu2,hmu2,hnk2⟩:=front hi hc (fun k hk q' hq'=> hap k (by simp [hk]) q' hq') hn2 (Nat.le_trans hbl hs.len) hav1
   have huo: ∀ x∈looks cx.P o.op, ∀ k,fE (fo st.t x)=some k→k∈tr.getD i []:=fun x hx k hk=> hu2 x hx k (by rw [hsame x hx]; exact hk)
   obtain ⟨s1',h1,h2,h3,h4⟩:=swap hs hs2 hapj huo hu hmu2 hmu hnk2 hnk hfj (fun he k hk=> Nat.lt_of_lt_of_le (hej he k hk) hbl) (fun hsl=> (hav i o (by simp) hi hsl).1) (fun hsl=> (hav j q (by simp) hj hsl).1) (fun hsl=> (hav i o (by simp) hi hsl).2) (fun hsl=> (hav j q (by simp) hj hsl).2)
    (fun ha hb=> R7 hi hj ha hb (Ne.symm hne))
   obtain ⟨v,hv⟩:=h1.tmps
   refine ⟨s1',h1, .cons hj (fun x hx k hk=> hu x hx k ?_) h4.1 h4.2 h2 hc2,huo,h3⟩
   rw [hv,vC (A8 x hx) fun n hn=> nN (hdo n hn).1] at hk
   exact hk
end Vx

/-
  An executor of Go code on values of its own: a region in any order; regions; code.
-/
namespace Vx
open Go Go.RowKit

def abY (acc:List Nat) (o:Oper):Nat:=
 o.after.toList.foldl (fun s e=> match ja e with
  | some j=> s ||| 2^j ||| acc.getD j 0
  | none=> s) 0

theorem Od (acc:List Nat) (j:Nat): ∀ (l:List Edge) (s:Nat),(l.foldl (fun s e=> match ja e with
 | some j=> s ||| 2^j ||| acc.getD j 0
 | none=> s) s).testBit j=true→s.testBit j=true∨ ∃ e∈l, ∃ k,ja e=some k∧(j=k∨(acc.getD k 0).testBit j=true)
 | [],s,h=> .inl h
 | e::l,s,h=> by
   simp only [List.foldl_cons] at h
   rcases Od acc j l _ h with h | ⟨e',he',k,hk,hb⟩
   · cases hk:ja e with
     | none=> simp only [hk] at h; exact .inl h
     | some k=>
       simp only [hk,Nat.testBit_or,Bool.or_eq_true,Nat.testBit_two_pow,decide_eq_true_iff] at h
       rcases h with (h | h) | h
       · exact .inl h
       · exact .inr ⟨e,by simp,k,hk, .inl h.symm⟩
       · exact .inr ⟨e,by simp,k,hk, .inr h⟩
   · exact .inr ⟨e',by simp [he'],k,hk,hb⟩

theorem DZ: ∀ (l:List Oper) (acc:List Nat) (k:Nat),k<acc.length→(xE l acc).getD k 0=acc.getD k 0
 | [],_,_,_=> rfl
 | o::r,acc,k,h=> by
   simp only [xE]
   rw [DZ r _ k (by simp; omega)]
   simp [List.getD_eq_getElem?_getD,List.getElem?_append_left h]

theorem UJ: ∀ (l:List Oper) (acc:List Nat) (m:Nat) (o:Oper),l[m]? =some o→
 ∃ acc':List Nat,acc'.length=acc.length+m∧(xE l acc).getD (acc.length+m) 0=abY acc' o∧ ∀ k,k<acc'.length→acc'.getD k 0=(xE l acc).getD k 0
 | [],_,_,_,h=> by simp at h
 | o'::r,acc,0,o,h=> by
   simp only [List.getElem?_cons_zero,Option.some.injEq] at h
   subst h
   refine ⟨acc,rfl,?_,fun k hk=> (DZ _ _ k hk).symm⟩
   simp only [xE,Nat.add_zero]
   rw [DZ r _ acc.length (by simp)]
   simp [List.getD_eq_getElem?_getD,abY]
   rfl
 | o'::r,acc,m+1,o,h=> by
   simp only [List.getElem?_cons_succ] at h
   simp only [xE]
   obtain ⟨acc',h1,h2,h3⟩:=UJ r (acc++ [o'.after.toList.foldl (fun s e=> match ja e with
    | some j=> s ||| 2^j ||| acc.getD j 0
    | none=> s) 0]) m o h
   refine ⟨acc',by simp at h1; omega,?_,h3⟩
   rw [← h2]
   congr 1
   simp; omega

theorem UI {ops:List Oper} {i j:Nat} {o:Oper} (hi:ops[i]? =some o) (h:((xE ops []).getD i 0).testBit j=true):
 ∃ e∈o.after.toList, ∃ k,ja e=some k∧(j=k∨((xE ops []).getD k 0).testBit j=true):=by
 obtain ⟨acc',h1,h2,h3⟩:=UJ ops [] i o hi
 simp only [List.length_nil,Nat.zero_add] at h1 h2
 rw [h2] at h
 rcases Od acc' j _ _ h with h | ⟨e,he,k,hk,hb⟩
 · simp at h
 · refine ⟨e,he,k,hk,?_⟩
   rcases hb with hb | hb
   · exact .inl hb
   · right
     by_cases hlt:k<acc'.length
     · rw [← h3 k hlt]; exact hb
     · rw [List.getD_eq_getElem?_getD,List.getElem?_eq_none (by omega)] at hb
       simp at hb

theorem OQ {P:Program}: ∀ {all:List Oper} {base j:Nat} {q:Oper},all[j]? =some q→(ZC P base all).getD j 0=xk P base all j
 | [],_,_,_,h=> by simp at h
 | o::l,base,0,q,_=> by simp [ZC,xk,gI]
 | o::l,base,j+1,q,h=> by
   simp only [List.getElem?_cons_succ] at h
   have:=OQ (P:=P) (base:=base+slots P o.op) h
   simp only [ZC,List.getD_cons_succ,this,xk,List.take_succ_cons,gI]
   omega

theorem yS {P:Program} {base:Nat} {tr:List (List Nat)} {ops:List Oper} (h:lu P base tr ops=true) {i:Nat} {o:Oper} (hi:ops[i]? =some o):
 (∀ e∈o.after.toList, ∀ k,ja e=some k→k<i)∧
 ∀ j q,ops[j]? =some q→j<i→((xE ops []).getD i 0).testBit j=true∨(apart P (tr.getD i []) (tr.getD j []) ops o q=true∧(slots P q.op=1→xk P base ops j ∉ tr.getD i [])∧(mV∈tr.getD j []→ ∀ k∈tr.getD i [],k<base)):=by
 unfold lu at h
 simp only [List.all_eq_true] at h
 have h1:=h (o,i) (by rw [List.mem_zipIdx_iff_getElem?]; exact hi)
 simp only [Bool.and_eq_true,List.all_eq_true] at h1
 obtain ⟨h2,h3⟩:=h1
 refine ⟨?_,?_⟩
 · intro e he k hk
   have:=h2 e he
   rw [hk] at this
   simpa using this
 · intro j q hj hlt
   have:=h3 (q,j) (by rw [List.mem_zipIdx_iff_getElem?]; exact hj)
   simp only [hlt,decide_true,Bool.not_true,Bool.false_or,Bool.or_eq_true,Bool.and_eq_true] at this
   refine this.imp_right fun h=> ⟨h.1.1,fun hs=> ?_,fun he k hk=> ?_⟩
   · rcases h.1.2 with h2 | h2
     · have:=Nat.eq_of_beq_eq_true h2; omega
     · intro hm
       rw [OQ hj] at h2
       exact C8 h2 hm (by simp)
   · have h2:=h.2
     unfold acC at h2
     rw [vg he,cond_true,List.all_eq_true] at h2
     have h3:=h2 k hk
     rwa [Nat.blt_eq] at h3

theorem D7 (e:Edge):(Region.binds .any e=true↔ja e=some e.on)∧ ∀ k,ja e=some k→k=e.on:=by
 obtain ⟨on,g⟩:=e
 cases g<;> simp [Region.binds,ja]<;> decide

theorem Ch {ops:Array Oper} {listed:Array Bool} {i:Nat} (h:i∈Region.ready .any ops listed):
 i<ops.size∧listed.getD i true=false∧ ∃ o,ops[i]? =some o∧ ∀ e∈o.after.toList, ∀ k,ja e=some k→listed.getD k false=true:=by
 unfold Region.ready at h
 rw [List.mem_filter] at h
 obtain ⟨h1,h2⟩:=h
 have hi:i<ops.size:=by simpa using h1
 simp only [Bool.and_eq_true,Bool.not_eq_true'] at h2
 refine ⟨hi,h2.1,ops[i],Array.getElem?_eq_getElem hi,?_⟩
 have h3:=h2.2
 rw [Array.getElem?_eq_getElem hi] at h3
 simp only [Option.map_some,Option.getD_some,Array.all_eq_true'] at h3
 intro e he k hk
 have hb:=D7 e
 have hkon:=hb.2 k hk
 subst hkon
 have:=h3 e (by simpa using he)
 rw [(hb.1.2 hk)] at this
 simpa using this

theorem adi {ops:Array Oper} {listed:Array Bool} {i:Nat} {o:Oper} (hi:ops[i]? =some o) (hl:listed.getD i true=false)
 (he: ∀ e∈o.after.toList, ∀ k,ja e=some k→listed.getD k false=true):i∈Region.ready .any ops listed:=by
 unfold Region.ready
 rw [List.mem_filter]
 have hlt:i<ops.size:=(Array.getElem?_eq_some_iff.1 hi).1
 refine ⟨by simpa using hlt,?_⟩
 rw [hi,hl]
 simp only [Bool.not_false,Option.map_some,Option.getD_some,Bool.true_and,Array.all_eq_true']
 intro e hee
 have hb:=D7 e
 cases hbe:Region.binds .any e with
 | false=> rfl
 | true=> simpa using he e (by simpa using hee) _ (hb.1.1 hbe)

theorem NN {l:Array Bool} {i j:Nat} {d:Bool} (hi:i<l.size):(l.setIfInBounds i true).getD j d=if j=i then true else l.getD j d:=by
 simp only [Array.getD,Array.size_setIfInBounds]
 by_cases hj:j=i
 · subst hj
   simp [hi]
 · rw [if_neg hj]
   split
   · rename_i hlt
     show (l.setIfInBounds i true)[j]'(by simpa using hlt)=l[j]
     rw [Array.getElem_setIfInBounds (by simpa using hlt),if_neg (fun e=> hj e.symm)]
   · rfl

theorem YB {J:JT} {cx:Cx} {ops:Array Oper} {base:Nat} {w0:World} {W:Nat→Prop} {Q:Exit→Act→World→Prop} (hT:aD cx.P cx.tab) (hJ: ∀ w0 W,JOk J cx w0 W) {tr:List (List Nat)} (hcomm:lu cx.P base tr ops.toList=true)
 {stF:St}: ∀ (fuel:Nat) (listed:Array Bool) (rem:List Nat) (st:St) (σ:Sg) (a:Act) (w:World),rem.length=fuel→rem.Pairwise (· < ·)→listed.size=ops.size→
  (∀ i,i∈rem↔i<ops.size∧listed.getD i true=false)→
  (∀ x,listed.getD x false=true→ ∀ y,((xE ops.toList []).getD x 0).testBit y=true→listed.getD y false=true)→
  BL J cx ops.toList base tr rem st stF→base≤st.h.length→BK cx.P ops.toList base rem st.h→gL w0 W cx.ro σ st a w→
  (∀ a' w' σ',Sub σ σ'→gL w0 W cx.ro σ' stF a' w'→Q .normal a' w')→wpAny cx.P .any ops Q fuel listed a w:=by
 intro fuel
 induction fuel with
 | zero=>
   intro listed rem st σ a w hlen hsort hsz hmem hdc hc hbl hav hr hq
   have:rem= []:=List.eq_nil_of_length_eq_zero hlen
   subst this
   cases hc
   refine ⟨?_,hq _ _ _ (Sub.refl _) hr⟩
   rw [List.eq_nil_iff_forall_not_mem]
   intro i hi
   obtain ⟨h1,h2,_⟩:=Ch hi
   exact absurd ((hmem i).2 ⟨h1,h2⟩) (by simp)
 | succ fuel ih=>
   intro listed rem st σ a w hlen hsort hsz hmem hdc hc hbl hav hr hq
   have gd: ∀ k,k<ops.size→listed.getD k true=listed.getD k false:=by
    intro k hk
    simp [Array.getD,hsz,hk]
   refine ⟨?_,?_⟩
   · intro hnil
     exfalso
     cases rem with
     | nil=> simp at hlen
     | cons i rest=>
       obtain ⟨h1,h2⟩:=(hmem i).1 (by simp)
       have hi:ops[i]? =some ops[i]:=Array.getElem?_eq_getElem h1
       have hready:i∈Region.ready .any ops listed:=by
        refine adi hi h2 fun e he k hk=> ?_
        have hlt:=(yS hcomm (by rw [Array.getElem?_toList]; exact hi)).1 e he k hk
        cases hb:listed.getD k false with
        | true=> rfl
        | false=>
          exfalso
          have hk':k∈i::rest:=(hmem k).2 ⟨by omega,by rw [gd k (by omega)]; exact hb⟩
          rcases List.mem_cons.1 hk' with rfl | hk'
          · omega
          · have:=(List.pairwise_cons.1 hsort).1 k hk'; omega
       rw [hnil] at hready
       simp at hready
   · intro i hi
     obtain ⟨h1,h2,o,hio,hedges⟩:=Ch hi
     have hil:ops.toList[i]? =some o:=by rw [Array.getElem?_toList]; exact hio
     have himem:i∈rem:=(hmem i).2 ⟨h1,h2⟩
     obtain ⟨pre,post,rfl⟩:=List.append_of_mem himem
     have hnd:(pre++i::post).Nodup:=hsort.imp (fun h=> Nat.ne_of_lt h)
     have hpre: ∀ j∈pre,j<i:=by
      intro j hj
      exact (List.pairwise_append.1 hsort).2.2 j hj i (by simp)
     obtain ⟨s1,hs,hc',_,_⟩:=front hil hc (fun j hj q hq'=> by
      have hlt:=hpre j hj
      refine ⟨by omega,?_⟩
      rcases (yS hcomm hil).2 j q hq' hlt with hb | hb
      · exfalso
        have hjl:listed.getD j true=false:=((hmem j).1 (by simp [hj])).2
        obtain ⟨e,he,k,hk,hor⟩:=UI hil hb
        have hkl:=hedges e he k hk
        have:listed.getD j false=true:=by
         rcases hor with rfl | hor
         · exact hkl
         · exact hdc k hkl j hor
        rw [gd j (by omega),this] at hjl
        cases hjl
      · exact hb) hnd hbl hav
     unfold wpOp
     rw [hio]
     refine OO hT hJ hs hr (fun hsl=> hav i o (by simp) hil hsl) ?_
     intro a' w' σ' hsub hr'
     have hsz':i<listed.size:=by omega
     refine ih _ (pre++post) s1 σ' a' w' ?_ ?_ (by simpa using hsz) ?_ ?_ hc' (Nat.le_trans hbl hs.len) ?_ hr' (fun a2 w2 σ2 h2 hr2=> hq a2 w2 σ2 (hsub.trans h2) hr2)
     · simp at hlen ⊢; omega
     · refine hsort.sublist ?_
       exact List.Sublist.append (List.Sublist.refl _) (List.sublist_cons_self _ _)
     · intro j
       rw [NN hsz']
       have hm:=hmem j
       have hnd':i ∉ pre++post:=by
        intro h
        have:=List.nodup_append.1 hnd
        rcases List.mem_append.1 h with h | h
        · exact this.2.2 i h i (by simp) rfl
        · exact (List.nodup_cons.1 this.2.1).1 h
       by_cases hji:j=i
       · subst hji
         simp only [if_true]
         constructor
         · intro h; exact absurd h hnd'
         · rintro ⟨_,h⟩; cases h
       · rw [if_neg hji,← hm]
         simp [hji]
     · intro x hx y hy
       rw [NN hsz'] at hx ⊢
       by_cases hyi:y=i
       · rw [if_pos hyi]
       · rw [if_neg hyi]
         by_cases hxi:x=i
         · subst hxi
           obtain ⟨e,he,k,hk,hor⟩:=UI hil hy
           have hkl:=hedges e he k hk
           rcases hor with rfl | hor
           · exact hkl
           · exact hdc k hkl y hor
         · rw [if_neg hxi] at hx
           exact hdc x hx y hy
     · refine hs.Iy hil hav fun j hj=> ?_
       have hnd':i ∉ pre++post:=by
        intro h
        have:=List.nodup_append.1 hnd
        rcases List.mem_append.1 h with h | h
        · exact this.2.2 i h i (by simp) rfl
        · exact (List.nodup_cons.1 this.2.1).1 h
       refine ⟨?_,fun e=> hnd' (e ▸ hj)⟩
       rcases List.mem_append.1 hj with h | h
       · exact List.mem_append.2 (.inl h)
       · exact List.mem_append.2 (.inr (List.mem_cons_of_mem _ h))

theorem gL.drew {w0:World} {W:Nat→Prop} {ro:Nat} {σ:Sg} {st:St} {a:Act} {w:World} (hr:gL w0 W ro σ st a w) (n:Nat):gL w0 W ro σ st a { w with drawn:=n } where
 defers:=hr.defers
 t:=hr.t
 h:=hr.h.heap rfl
 fr:=⟨hr.fr.os,hr.fr.tape,hr.fr.output,hr.fr.size,hr.fr.old,hr.fr.own⟩

theorem LU {J:JT} {I:IL} {cx:Cx} {rid:Nat} {ops:Array Oper} {draw:Bool} {w0:World} {W:Nat→Prop} {Q:Exit→Act→World→Prop} (hT:aD cx.P cx.tab) (hJ: ∀ w0 W,JOk J cx w0 W) (hmix:cx.P.follows .mixedOrders=true)
 {st:St} {κ:St→Out} {out:Out} {σ:Sg} {a:Act} {w:World} (h:qp cx I ops draw st κ=out) (hg:out.good) (hI:afu J I out) (hr:gL w0 W cx.ro σ st a w)
 (hq: ∀ st' σ' a' w',κ st'=out→Sub σ σ'→gL w0 W cx.ro σ' st' a' w'→Q .normal a' w'):(Code.region rid ops draw).wp cx.P Q a w:=by
 unfold qp at h
 have hid:ops.toList.drop 0=ops.toList:=rfl
 obtain ⟨st',tr,hc,hk,_⟩:=uk (base:=st.h.length) hg hI ops.toList 0 _ [] hid rfl h
 have hlen:ops.toList.length=ops.size:=by simp
 rw [← List.range_eq_range',hlen] at hc
 have hr1:=hr.pad (gI cx.P ops.toList)
 cases hb:(!draw || lu cx.P st.h.length tr ops.toList) with
 | false=> rw [hb] at hk; simp only [cond_false] at hk; subst hk; exact hg.elim
 | true=>
   rw [hb] at hk
   simp only [cond_true] at hk
   cases draw with
   | false=>
     refine wp_region ?_
     exact BN hT hJ hc List.nodup_range (DX st.h _) hr1 (fun a' w' σ' hs hr'=> hq st' σ' a' w' hk hs hr')
   | true=>
     have hcomm:lu cx.P st.h.length tr ops.toList=true:=by simpa using hb
     refine wp_region_draw ?_
     intro t
     have hsch:Region.schedule (cx.P.follows .mixedOrders) ops t=Region.linearise .any ops t:=by
      unfold Region.schedule
      rw [hmix]; rfl
     rw [hsch]
     unfold Region.linearise
     refine wpAny_sound ops.size t _ a _ ?_
     refine YB hT hJ hcomm ops.size _ (List.range ops.size) ⟨st.t,st.h++List.replicate (gI cx.P ops.toList) none⟩ σ a _ (by simp) List.pairwise_lt_range (by simp) ?_ ?_ hc (by simp) (DX st.h _) (hr1.drew _)
      (fun a' w' σ' hs hr'=> hq st' σ' a' w' hk hs hr')
     · intro i
       simp only [List.mem_range]
       constructor
       · intro hi; exact ⟨hi,by simp [Array.getD,hi]⟩
       · exact fun hi=> hi.1
     · intro x hx
       simp only [Array.getD,Array.size_replicate] at hx
       split at hx
       · simp at hx
       · cases hx
end Vx

/-
  An executor of Go code on values of its own: code; what code comes to; forgetting; contracts out of code.
-/
namespace Vx
open Go Go.RowKit

def Ex.u6:Ex→Exit
 | .normal=> .normal
 | .exit id=> .exit id
 | .ret=> .ret

def Lin {α:Type} (F:(α→Out)→Out):Prop:= ∀ κ out,F κ=out→out.good→ ∃ a,κ a=out∧ ∀ κ',F κ'=κ' a

theorem qi {l:List Bool} {k:Out} (h:allT l):aS l k=k:=by
 induction l with
 | nil=> rfl
 | cons b l ih=>
   obtain ⟨h1,h2⟩:=fT h
   simp only [aS,h1,cond_true]
   exact ih h2

theorem ady (cx:Cx) (o:Oper) (id:Nat) (st:St):Lin (Tk cx o id st):=by
 intro κ out h hg
 unfold Tk at h ⊢
 split at h
 · obtain ⟨h1,h2⟩:=fV h hg
   exact ⟨_,h2,fun κ'=> qi h1⟩
 · rename_i chk b v w _
   obtain ⟨h1,h2⟩:=fV h hg
   cases b with
   | true=> exact ⟨_,h2,fun κ'=> qi h1⟩
   | false=> exact ⟨_,h2,fun κ'=> qi h1⟩
 · obtain ⟨h1,h2⟩:=fV h hg
   exact ⟨_,h2,fun κ'=> qi h1⟩
 · obtain ⟨h1,h2⟩:=fV h hg
   exact ⟨_,h2,fun κ'=> qi h1⟩
 · obtain ⟨h1,h2⟩:=fV h hg
   exact ⟨_,h2,fun κ'=> qi h1⟩
 · subst h; exact hg.elim

def afv (I:IL):Prop:= ∀ f as h,Lin fun κ:V × Hp→Out=> I f as h fun v h=> κ (v,h)

theorem aaa {cx:Cx} {I:IL} (hI:afv I) (o:Oper) (id:Nat) (st:St):Lin (xx cx I o id st):=by
 intro κ out h hg
 unfold xx at h ⊢
 split at h
 · rename_i f as hil
   split at h
   · rename_i hx
     obtain ⟨⟨v,h'⟩,h1,h2⟩:=hI f as st.h (fun p=> match kr st.h p.2 with
      | true=> κ ⟨bR st.t o.dst p.1,p.2⟩
      | false=> .fail 30) out h hg
     simp only at h1
     split at h1
     · rename_i hk
       refine ⟨_,h1,fun κ'=> ?_⟩
       have:=h2 (fun p=> match kr st.h p.2 with
        | true=> κ' ⟨bR st.t o.dst p.1,p.2⟩
        | false=> .fail 30)
       simp only [hk] at this
       exact this
     · subst h1; exact hg.elim
   · rename_i hx
     split at h
     · rename_i hcl
       obtain ⟨⟨v,h'⟩,h1,h2⟩:=hI f as (gZ (bz (Vx.hg st.h) as) 0 st.h) (fun p=> match kr (gZ (bz (Vx.hg st.h) as) 0 st.h) p.2 with
        | true=> κ ⟨bR st.t o.dst p.1,fK (bz (Vx.hg st.h) as) 0 st.h p.2⟩
        | false=> .fail 30) out h hg
       simp only at h1
       split at h1
       · rename_i hk
         refine ⟨_,h1,fun κ'=> ?_⟩
         have:=h2 (fun p=> match kr (gZ (bz (Vx.hg st.h) as) 0 st.h) p.2 with
          | true=> κ' ⟨bR st.t o.dst p.1,fK (bz (Vx.hg st.h) as) 0 st.h p.2⟩
          | false=> .fail 30)
         simp only [hk] at this
         exact this
       · subst h1; exact hg.elim
     · subst h; exact hg.elim
 · exact ady cx o id st κ out h hg

theorem xM {cx:Cx} {I:IL} (hI:afv I) (all:List Oper): ∀ (l:List Oper) (id:Nat) (st:St) (tr:List (List Nat)),Lin fun κ:List (List Nat) × St→Out=> pM cx I all l id st tr fun tr s=> κ (tr,s)
 | [],id,st,tr=> fun κ out h _=> ⟨(tr,st),h,fun _=> rfl⟩
 | o::r,id,st,tr=> by
   intro κ out h hg
   simp only [pM] at h ⊢
   split at h
   · rename_i g hgd
     cases g with
     | true=>
       simp only [cond_true] at h ⊢
       obtain ⟨s1,h1,h2⟩:=aaa hI o id st _ out h hg
       obtain ⟨p,h3,h4⟩:=xM hI all r _ s1 _ κ out h1 hg
       exact ⟨p,h3,fun κ'=> (h2 _).trans (h4 κ')⟩
     | false=>
       simp only [cond_false] at h ⊢
       exact xM hI all r _ _ _ κ out h hg
   · subst h; exact hg.elim

theorem KN {cx:Cx} {I:IL} (hI:afv I) (ops:Array Oper) (draw:Bool) (st:St):Lin (qp cx I ops draw st):=by
 intro κ out h hg
 unfold qp at h ⊢
 obtain ⟨⟨tr,s⟩,h1,h2⟩:=xM hI ops.toList ops.toList st.h.length ⟨st.t,st.h++List.replicate (gI cx.P ops.toList) none⟩ []
  (fun p=> bif !draw || lu cx.P st.h.length p.1 ops.toList then κ p.2 else .fail 4) out h hg
 simp only at h1
 cases hb:(!draw || lu cx.P st.h.length tr ops.toList) with
 | false=> rw [hb] at h1; simp only [cond_false] at h1; subst h1; exact hg.elim
 | true=>
   rw [hb] at h1
   simp only [cond_true] at h1
   refine ⟨s,h1,fun κ'=> ?_⟩
   have:=h2 (fun p=> bif !draw || lu cx.P st.h.length p.1 ops.toList then κ' p.2 else .fail 4)
   simp only [hb,cond_true] at this
   exact this

noncomputable def abK (cx:Cx) (n:Nat):IL:=fun f as h κ=> match cx.js f with
 | some r=> aS [eqS as h r.1 r.2.1] (κ r.2.2.1 r.2.2.2)
 | none=> match cx.il f with
   | some fn=> match fn.body with
     | some c=> ev cx n c ⟨t0 fn as,h⟩ (zi cx.P fn κ)
     | none=> .fail 33
   | none=> .fail 34

theorem YO {l:List Bool} {o:Out} (h:allT l):aS l o=o:=by
 induction l with
 | nil=> rfl
 | cons b l ih=>
   obtain ⟨h1,h2⟩:=fT h
   simp only [aS,h1,cond_true]
   exact ih h2

theorem abL {cx:Cx} {n:Nat} (h: ∀ c st,Lin fun κ:Ex × St→Out=> ev cx n c st fun e s=> κ (e,s)):afv (abK cx n):=by
 intro f as hp κ out hk hg
 simp only [abK] at hk ⊢
 split at hk
 · rename_i r hr
   obtain ⟨h1,h2⟩:=fV hk hg
   exact ⟨(r.2.2.1,r.2.2.2),h2,fun κ'=> YO h1⟩
 · split at hk
   case h_2=> subst hk; exact hg.elim
   rename_i fn hfn
   split at hk
   case h_2=> subst hk; exact hg.elim
   · rename_i c hc
     obtain ⟨⟨e,s⟩,h1,h2⟩:=h c ⟨t0 fn as,hp⟩ (fun p=> zi cx.P fn (fun v h=> κ (v,h)) p.1 p.2) out hk hg
     simp only [zi] at h1
     split at h1
     · subst h1; exact hg.elim
     · rename_i hne
       split at h1
       · rename_i v hv
         refine ⟨(v,s.h),h1,fun κ'=> ?_⟩
         have:=h2 (fun p=> zi cx.P fn (fun v h=> κ' (v,h)) p.1 p.2)
         refine this.trans ?_
         simp only [zi]
         cases e with
         | exit id=> exact absurd rfl (hne id)
         | normal=> simp only [hv]
         | ret=> simp only [hv]
       · subst h1; exact hg.elim

theorem abA (cx:Cx): ∀ (n:Nat) (c:Code) (st:St),Lin fun κ:Ex × St→Out=> ev cx n c st fun e s=> κ (e,s)
 | 0,c,st=> by
   intro κ out h hg
   simp only [ev] at h
   subst h; exact hg.elim
 | n+1,c,st=> by
   have ih:=abA cx n
   intro κ out h hg
   cases c with
   | skip=> exact ⟨(.normal,st),by simpa only [ev] using h,fun _=> by simp only [ev]⟩
   | region rid ops draw=>
     simp only [ev] at h ⊢
     obtain ⟨s,h1,h2⟩:=KN (abL ih) ops draw st (fun s=> κ (.normal,s)) out h hg
     exact ⟨(.normal,s),h1,fun κ'=> h2 fun s=> κ' (.normal,s)⟩
   | seq x y=>
     simp only [ev] at h ⊢
     obtain ⟨⟨e,s⟩,h1,h2⟩:=ih x st (fun p=> match p.1 with
      | .normal=> ev cx n y p.2 fun e s=> κ (e,s)
      | e=> κ (e,p.2)) out h hg
     cases e with
     | normal=>
       obtain ⟨p,h3,h4⟩:=ih y s κ out h1 hg
       exact ⟨p,h3,fun κ'=> (h2 (fun p=> match p.1 with
        | .normal=> ev cx n y p.2 fun e s=> κ' (e,s)
        | e=> κ' (e,p.2))).trans (h4 κ')⟩
     | exit id=> exact ⟨(.exit id,s),h1,fun κ'=> h2 (fun p=> match p.1 with
      | .normal=> ev cx n y p.2 fun e s=> κ' (e,s)
      | e=> κ' (e,p.2))⟩
     | ret=> exact ⟨(.ret,s),h1,fun κ'=> h2 (fun p=> match p.1 with
      | .normal=> ev cx n y p.2 fun e s=> κ' (e,s)
      | e=> κ' (e,p.2))⟩
   | cond x y z=>
     simp only [ev] at h ⊢
     split at h
     · rename_i b hb
       cases b with
       | true=> simp only [cond_true] at h ⊢; exact ih y st κ out h hg
       | false=> simp only [cond_false] at h ⊢; exact ih z st κ out h hg
     · subst h; exact hg.elim
   | block id b=>
     simp only [ev] at h ⊢
     obtain ⟨⟨e,s⟩,h1,h2⟩:=ih b st (fun p=> match p.1 with
      | .exit j=> bif j==id then κ (.normal,p.2) else κ (.exit j,p.2)
      | e=> κ (e,p.2)) out h hg
     have h2':=fun κ':Ex × St→Out=> h2 (fun p=> match p.1 with
      | .exit j=> bif j==id then κ' (.normal,p.2) else κ' (.exit j,p.2)
      | e=> κ' (e,p.2))
     cases e with
     | normal=> exact ⟨(.normal,s),h1,h2'⟩
     | ret=> exact ⟨(.ret,s),h1,h2'⟩
     | exit j=>
       simp only at h1 h2'
       cases hj:(j==id) with
       | true=> simp only [hj,cond_true] at h1 h2'; exact ⟨(.normal,s),h1,h2'⟩
       | false=> simp only [hj,cond_false] at h1 h2'; exact ⟨(.exit j,s),h1,h2'⟩
   | loop b=>
     simp only [ev] at h ⊢
     obtain ⟨⟨e,s⟩,h1,h2⟩:=ih b st (fun p=> match p.1 with
      | .normal=> ev cx n (.loop b) p.2 fun e s=> κ (e,s)
      | e=> κ (e,p.2)) out h hg
     have h2':=fun κ':Ex × St→Out=> h2 (fun p=> match p.1 with
      | .normal=> ev cx n (.loop b) p.2 fun e s=> κ' (e,s)
      | e=> κ' (e,p.2))
     cases e with
     | normal=>
       obtain ⟨p,h3,h4⟩:=ih (.loop b) s κ out h1 hg
       exact ⟨p,h3,fun κ'=> (h2' κ').trans (h4 κ')⟩
     | exit id=> exact ⟨(.exit id,s),h1,h2'⟩
     | ret=> exact ⟨(.ret,s),h1,h2'⟩
   | exit id=> exact ⟨(.exit id,st),by simpa only [ev] using h,fun _=> by simp only [ev]⟩
   | ret=> exact ⟨(.ret,st),by simpa only [ev] using h,fun _=> by simp only [ev]⟩
   | rangeFunc _ _ _ _=> simp only [ev] at h; subst h; exact hg.elim
   | scope _=> simp only [ev] at h; subst h; exact hg.elim
   | label _=> simp only [ev] at h; subst h; exact hg.elim
   | goto _=> simp only [ev] at h; subst h; exact hg.elim
   | refuse _=> simp only [ev] at h; subst h; exact hg.elim

def aaJ (cx:Cx) (n:Nat):JT:=fun f as h v h'=> cx.js f=some (as,h,v,h')∨ ∃ fn c e s,cx.il f=some fn∧fn.body=some c∧(e= .normal∨e= .ret)∧
 ev cx n c ⟨t0 fn as,h⟩ (fun e s=> .done e s)= .done e s∧ED cx.P fn s=some v∧s.h=h'

theorem af4 (cx:Cx) (n:Nat) {out:Out} (hg:out.good):afu (aaJ cx n) (abK cx n) out:=by
 intro f as h κ hk
 simp only [abK] at hk
 split at hk
 · rename_i r hr
   obtain ⟨h1,h2⟩:=fV hk hg
   obtain ⟨e1,e2⟩:=ajm (h1 (eqS as h r.1 r.2.1) (by simp))
   refine ⟨r.2.2.1,r.2.2.2, .inl ?_,h2⟩
   rw [hr,e1,e2]
 split at hk
 · rename_i fn hfn
   split at hk
   · rename_i c hc
     obtain ⟨⟨e,s⟩,h1,h2⟩:=abA cx n c ⟨t0 fn as,h⟩ (fun p=> zi cx.P fn κ p.1 p.2) out hk hg
     have h3:=h2 (fun p=> .done p.1 p.2)
     simp only [zi] at h1
     split at h1
     · subst h1; exact hg.elim
     · rename_i hne
       split at h1
       · rename_i v hv
         refine ⟨v,s.h, .inr ⟨fn,c,e,s,hfn,hc,?_,h3,hv,rfl⟩,h1⟩
         cases e with
         | normal=> exact .inl rfl
         | ret=> exact .inr rfl
         | exit id=> exact absurd rfl (hne id)
       · subst h1; exact hg.elim
   · subst hk; exact hg.elim
 · subst hk; exact hg.elim

def mK (P:Program) (ro:Nat) (f:FuncId) (as:List V) (h:Hp) (v:V) (h':Hp):Prop:=
 ∀ (w0:World) (W:Nat→Prop) (σ:Sg) (w:World) (vals:List Value),bT ro σ h w→Fr w0 W ro σ w→eD (aQ σ) as vals→
   iD P f vals.toArray w fun x w'=> ∃ σ',Sub σ σ'∧aQ σ' v x∧bT ro σ' h' w'∧Fr w0 W ro σ' w'
def dO (P:Program) (ro:Nat) (js:FuncId→Option (List V × Hp × V × Hp)):Prop:= ∀ f as h v h',js f=some (as,h,v,h')→mK P ro f as h v h'

def bf (P : Program) (il : FuncId → Option Func) : Prop := ∀ f fn, il f = some fn → P.funcs[f]? = some fn ∧ (fn.name == "runtime.NumGoroutine") = false

theorem KX {σ:Sg} {l:List V} {vs:List Value} (hall:eD (aQ σ) l vs): ∀ (m i:Nat),aQ σ (gl (l++List.replicate m bW) i) ((vs++List.replicate m undef).getD i undef):=by
 induction hall with
 | nil=>
   intro m i
   have e1:gl ([]++List.replicate m bW) i=bW:=by
    unfold gl
    rw [List.getD_eq_getElem?_getD,List.nil_append,List.getElem?_replicate]
    split<;> rfl
   have e2:([]++List.replicate m undef).getD i undef=undef:=by
    rw [List.getD_eq_getElem?_getD,List.nil_append,List.getElem?_replicate]
    split<;> rfl
   rw [e1,e2]
   exact vX _
 | cons h1 _ ih=>
   intro m i
   cases i with
   | zero=> exact h1
   | succ i=> exact ih m i

theorem eD.length {α β:Type} {R:α→β→Prop}: ∀ {l:List α} {m:List β},eD R l m→m.length=l.length
 | _,_, .nil=> rfl
 | _,_, .cons _ h=> by simp [h.length]

section
variable {P:Program} {w:World}

def ZV (tm:Array Value):ResultVar→Sem Value
 | .tmp t=> pure (tm.getD t undef)
 | .cell b t=> do loadVar t (← asAddr (tm.getD b undef))

theorem Tg (fn:Func) (tm:Array Value):results fn tm=(do
 let vs ← fn.results.mapM (ZV tm)
 pure (if h:vs.size=1 then vs[0] else .tuple vs)):=by
 unfold results
 have:(fun r:ResultVar=> (match r with
  | .tmp t=> pure (tm.getD t undef)
  | .cell a t=> do loadVar t (← asAddr (tm.getD a undef)):Sem Value))=ZV tm:=by
  funext r; cases r<;> rfl
 rw [← this]
 rfl

theorem pg {fn:Func} {st:St} {a:Act} {w:World} {σ:Sg} {ro:Nat} {v:V} (he:ED P fn st=some v) (ht:DJ σ st.t a.tmps) (hh:bT ro σ st.h w):
 ∃ x,(results fn a.tmps).run P w= .ok x w∧aQ σ v x:=by
 have key: ∀ (l:List ResultVar) (us:List U),EE P st l=some us→ ∃ xs:List Value,
  (l.mapM (ZV a.tmps)).run P w= .ok xs w∧eD (mP σ) us xs:=by
  intro l
  induction l with
  | nil=> intro us h; simp only [EE,Option.some.injEq] at h; subst h; exact ⟨[],by simp, .nil⟩
  | cons r l ih=>
    intro us h
    simp only [EE] at h
    split at h
    · rename_i u us' hu hus
      cases h
      obtain ⟨xs,hxs,hall⟩:=ih us' hus
      cases r with
      | tmp t=>
        simp only [RP] at hu
        split at hu
        · rename_i y hy
          cases hu
          have hv:=ht.2 t
          rw [hy] at hv
          exact ⟨a.tmps.getD t undef::xs,by simp only [List.mapM_cons,ZV,Sem.run_bind,Sem.run_pure,Result.andThen_ok,hxs], .cons hv hall⟩
        · cases hu
      | cell b t=>
        simp only [RP] at hu
        split at hu
        · rename_i y hy
          cases hu
          have hv:=ht.2 b
          obtain ⟨z,hz,hvz⟩:=y9 (P:=P) (w:=w) (v:= .u u) (by rw [hy]; exact .val (fun _ h=> by simp at h)) hv hh
          refine ⟨z::xs,?_, .cons hvz hall⟩
          have hz':(do loadVar t (← asAddr (a.tmps.getD b undef)):Sem Value).run P w= .ok z w:=by
           simp only [Instr.loadAt] at hz
           cases hx:a.tmps.getD b undef with
           | pointer p=> cases p with
             | none=> rw [hx] at hz; simp [Instr.sureAddr,stuck] at hz
             | some p=> rw [hx] at hz; simpa [Instr.sureAddr,asAddr] using hz
           | _=> rw [hx] at hz; simp [Instr.sureAddr,stuck] at hz
          simp only [Sem.run_bind] at hz'
          simp only [List.mapM_cons,ZV,Sem.run_bind,hz',Sem.run_pure,Result.andThen_ok,hxs]
        · cases hu
    · cases h
 unfold ED at he
 have hm: ∀ xs,(fn.results.toList.mapM (ZV a.tmps)).run P w= .ok xs w→
  (results fn a.tmps).run P w= .ok (if h:xs.toArray.size=1 then xs.toArray[0] else .tuple xs.toArray) w:=by
  intro xs h
  rw [Tg]
  simp only [Sem.run_bind]
  rw [Array.mapM_eq_mapM_toList]
  simp only [Sem.run_map]
  rw [h]
  simp
 split at he
 · rename_i u hu
   cases he
   obtain ⟨xs,hxs,hall⟩:=key _ _ hu
   cases hall with
   | cons h1 h2=>
     cases h2
     exact ⟨_,hm _ hxs,by simpa [aQ] using h1⟩
 · rename_i us hne hu
   cases he
   obtain ⟨xs,hxs,hall⟩:=key _ _ hu
   refine ⟨_,hm _ hxs,?_⟩
   have: ¬ xs.toArray.size=1:=by
    intro h
    have hlen: ∀ {us:List U} {xs:List Value},eD (mP σ) us xs→us.length=xs.length:=by
     intro us xs h
     induction h with
     | nil=> rfl
     | cons _ _ ih=> simp [ih]
    have h1:us.length=1:=by rw [hlen hall]; simpa using h
    obtain ⟨u,rfl⟩:=List.length_eq_one_iff.1 h1
    exact hne u rfl
   rw [dif_neg this]
   exact ⟨xs,rfl,hall⟩
 · cases he
end

section
variable {cx:Cx} {w0:World} {W:Nat→Prop}

theorem Y1 {cx:Cx} (hT:aD cx.P cx.tab) (hmix:cx.P.follows .mixedOrders=true) (hil:bf cx.P cx.il) (hjs:dO cx.P cx.ro cx.js): ∀ (n:Nat) {out:Out} (_:out.good) (w0:World) (W:Nat→Prop),
 (∀ (c:Code) (st:St) (κ:Ex→St→Out) (Q:Exit→Act→World→Prop) (σ:Sg) (a:Act) (w:World),ev cx n c st κ=out→gL w0 W cx.ro σ st a w→
  (∀ e st' σ' a' w',κ e st'=out→Sub σ σ'→gL w0 W cx.ro σ' st' a' w'→Q e.u6 a' w')→c.wp cx.P Q a w)∧
 (∀ (b:Code) (st:St) (κ:Ex→St→Out) (Q:Exit→Act→World→Prop) (σ:Sg) (a:Act) (w:World),ev cx n (.loop b) st κ=out→gL w0 W cx.ro σ st a w→
  (∀ e st' σ' a' w',κ e st'=out→Sub σ σ'→gL w0 W cx.ro σ' st' a' w'→Q e.u6 a' w')→Code.rounds cx.P b Q n a w):=by
 intro n
 induction n with
 | zero=>
   intro out hg w0 W
   refine ⟨?_,?_⟩
   · intro c st κ Q σ a w h; simp only [ev] at h; subst h; exact hg.elim
   · intro b st κ Q σ a w h; simp only [ev] at h; subst h; exact hg.elim
 | succ n ih=>
   intro out hg w0 W
   obtain ⟨ihA,ihB⟩:=ih hg w0 W
   have hJ: ∀ w0 W,JOk (aaJ cx n) cx w0 W:=by
    rintro w0 W f as h v h' (hj | ⟨fn,c,e,s,hfn,hc,he,hev,hres,rfl⟩) σ w vals hh hfr hall
    · exact hjs f as h v h' hj w0 W σ w vals hh hfr hall
    obtain ⟨hf,hname⟩:=hil f fn hfn
    have hrun:(callFunc f vals.toArray).run cx.P w= .ok (.enter f vals.toArray) w:=by
     simp only [callFunc,Sem.run_bind,run_program,Result.andThen_ok,hf]
     rw [if_neg (by rw [hname]; simp)]
     simp [hc]
    have hl:=hall.length
    have hrep:gL w0 W cx.ro σ ⟨t0 fn as,h⟩ { tmps:=vals.toArray++Array.replicate (fn.ntmps - vals.toArray.size) undef,defers:= [] } w:=by
     refine ⟨rfl,⟨by simp [t0,hl],fun i=> ?_⟩,hh,hfr⟩
     have h1:=KX hall (fn.ntmps - as.length) i
     have e:(vals.toArray++Array.replicate (fn.ntmps - vals.toArray.size) undef).getD i undef=(vals++List.replicate (fn.ntmps - as.length) undef).getD i undef:=by
      rw [Array.getD_eq_getD_getElem?,List.getD_eq_getElem?_getD]
      rw [← Array.getElem?_toList]
      simp [hl]
     rw [e]
     exact h1
    unfold iD
    rw [hrun]
    refine calls_of_wp hf hc ?_
    refine (ih (out:= .done e s) trivial w0 W).1 c ⟨t0 fn as,h⟩ (fun e s=> .done e s) _ σ _ w hev hrep ?_
    intro e2 s2 σ' a' w' h2 hsub hr'
    cases h2
    obtain ⟨x,hx,hvx⟩:=pg hres hr'.t hr'.h
    rcases he with rfl | rfl
    · exact ⟨hr'.defers,x,hx,σ',hsub,hvx,hr'.h,hr'.fr⟩
    · exact ⟨hr'.defers,x,hx,σ',hsub,hvx,hr'.h,hr'.fr⟩
   have hB: ∀ (b:Code) (st:St) (κ:Ex→St→Out) (Q:Exit→Act→World→Prop) (σ:Sg) (a:Act) (w:World),ev cx (n+1) (.loop b) st κ=out→gL w0 W cx.ro σ st a w→
    (∀ e st' σ' a' w',κ e st'=out→Sub σ σ'→gL w0 W cx.ro σ' st' a' w'→Q e.u6 a' w')→Code.rounds cx.P b Q (n+1) a w:=by
    intro b st κ Q σ a w h hr hq
    simp only [ev] at h
    rw [rounds_succ]
    refine ihA b st _ _ σ a w h hr ?_
    intro e st' σ' a' w' hk hs hr'
    cases e with
    | normal=> exact ihB b st' κ Q σ' a' w' hk hr' (fun e2 st2 σ2 a2 w2 h2 hs2 hr2=> hq e2 st2 σ2 a2 w2 h2 (hs.trans hs2) hr2)
    | exit id=> exact hq _ st' σ' a' w' hk hs hr'
    | ret=> exact hq _ st' σ' a' w' hk hs hr'
   refine ⟨?_,hB⟩
   intro c st κ Q σ a w h hr hq
   cases c with
   | skip=>
     simp only [ev] at h
     exact wp_skip (hq .normal st σ a w h (Sub.refl _) hr)
   | region rid ops draw=>
     simp only [ev] at h
     exact LU (J:=aaJ cx n) (I:=abK cx n) hT hJ hmix h hg (af4 cx n hg) hr (fun st' σ' a' w' hk hs hr'=> hq .normal st' σ' a' w' hk hs hr')
   | seq x y=>
     simp only [ev] at h
     refine wp_seq (ihA x st _ _ σ a w h hr ?_)
     intro e st' σ' a' w' hk hs hr'
     cases e with
     | normal=> exact ihA y st' κ Q σ' a' w' hk hr' (fun e2 st2 σ2 a2 w2 h2 hs2 hr2=> hq e2 st2 σ2 a2 w2 h2 (hs.trans hs2) hr2)
     | exit id=> exact hq _ st' σ' a' w' hk hs hr'
     | ret=> exact hq _ st' σ' a' w' hk hs hr'
   | cond x y z=>
     simp only [ev] at h
     split at h
     · rename_i b hb
       have hv:=eG hr.t x
       rw [hb] at hv
       refine wp_cond (GZ hv) ?_
       cases b with
       | true=> simp only [cond_true] at h; exact ihA y st κ Q σ a w h hr hq
       | false=> simp only [cond_false] at h; exact ihA z st κ Q σ a w h hr hq
     · subst h; exact hg.elim
   | block id b=>
     simp only [ev] at h
     refine wp_block (ihA b st _ _ σ a w h hr ?_)
     intro e st' σ' a' w' hk hs hr'
     cases e with
     | normal=> exact hq .normal st' σ' a' w' hk hs hr'
     | ret=> exact hq .ret st' σ' a' w' hk hs hr'
     | exit j=>
       simp only [Ex.u6,Exit.inBlock]
       by_cases hj:j=id
       · subst hj
         simp only [beq_self_eq_true,cond_true] at hk
         rw [if_pos rfl]
         exact hq .normal st' σ' a' w' hk hs hr'
       · have:(j==id)=false:=by simpa using hj
         simp only [this,cond_false] at hk
         rw [if_neg hj]
         exact hq (.exit j) st' σ' a' w' hk hs hr'
   | loop b=> exact wp_loop_rounds (n+1) (hB b st κ Q σ a w h hr hq)
   | exit id=>
     simp only [ev] at h
     exact wp_exit (hq (.exit id) st σ a w h (Sub.refl _) hr)
   | ret=>
     simp only [ev] at h
     exact wp_ret (hq .ret st σ a w h (Sub.refl _) hr)
   | rangeFunc _ _ _ _=> simp only [ev] at h; subst h; exact hg.elim
   | scope _=> simp only [ev] at h; subst h; exact hg.elim
   | label _=> simp only [ev] at h; subst h; exact hg.elim
   | goto _=> simp only [ev] at h; subst h; exact hg.elim
   | refuse _=> simp only [ev] at h; subst h; exact hg.elim

theorem NB (hT:aD cx.P cx.tab) (hmix:cx.P.follows .mixedOrders=true) (hil:bf cx.P cx.il) (hjs:dO cx.P cx.ro cx.js) (n:Nat) {out:Out} (hg:out.good):
 (∀ (c:Code) (st:St) (κ:Ex→St→Out) (Q:Exit→Act→World→Prop) (σ:Sg) (a:Act) (w:World),ev cx n c st κ=out→gL w0 W cx.ro σ st a w→
  (∀ e st' σ' a' w',κ e st'=out→Sub σ σ'→gL w0 W cx.ro σ' st' a' w'→Q e.u6 a' w')→c.wp cx.P Q a w)∧
 (∀ (b:Code) (st:St) (κ:Ex→St→Out) (Q:Exit→Act→World→Prop) (σ:Sg) (a:Act) (w:World),ev cx n (.loop b) st κ=out→gL w0 W cx.ro σ st a w→
  (∀ e st' σ' a' w',κ e st'=out→Sub σ σ'→gL w0 W cx.ro σ' st' a' w'→Q e.u6 a' w')→Code.rounds cx.P b Q n a w):=Y1 hT hmix hil hjs n hg w0 W

end

def bM (cx:Cx) (n0:Nat) (c:Code) (st:St) (R:Ex→St→Prop):Prop:=
 ∀ (w0:World) (W:Nat→Prop) (σ0 σ:Sg) (a:Act) (w:World) (Q:Exit→Act→World→Prop),(∀ i b,σ0 i=some b→i<n0)→Sub σ0 σ→gL w0 W cx.ro σ st a w→
   (∀ e st' σ' a' w',R e st'→Sub σ0 σ'→gL w0 W cx.ro σ' st' a' w'→Q e.u6 a' w')→c.wp cx.P Q a w

structure Ok (cx:Cx):Prop where
 tab:aD cx.P cx.tab
 il:bf cx.P cx.il
 js:dO cx.P cx.ro cx.js
 mix:cx.P.follows .mixedOrders=true

theorem bM.mono {cx:Cx} {n0:Nat} {c:Code} {st:St} {R R':Ex→St→Prop} (h:bM cx n0 c st R) (hi: ∀ e s,R e s→R' e s):bM cx n0 c st R':=
 fun w0 W σ0 σ a w Q hn hs hr hq=> h w0 W σ0 σ a w Q hn hs hr fun e s σ' a' w' hR=> hq e s σ' a' w' (hi e s hR)

def andThen (R:St→Prop) (R':Ex→St→Prop):Ex→St→Prop
 | .normal,s=> R s
 | e,s=> R' e s

theorem bM.seq {cx:Cx} {n0:Nat} {x y:Code} {st:St} {R:Ex→St→Prop} (h:bM cx n0 x st (andThen (fun s=> bM cx n0 y s R) R)):bM cx n0 (.seq x y) st R:=by
 intro w0 W σ0 σ a w Q hn hs hr hq
 refine wp_seq (h w0 W σ0 σ a w _ hn hs hr ?_)
 intro e st' σ' a' w' hR hs' hr'
 cases e with
 | normal=> exact hR w0 W σ0 σ' a' w' Q hn hs' hr' hq
 | exit id=> exact hq _ st' σ' a' w' hR hs' hr'
 | ret=> exact hq _ st' σ' a' w' hR hs' hr'

def IX (id:Nat) (R:Ex→St→Prop):Ex→St→Prop
 | .exit j,s=> if j=id then R .normal s else R (.exit j) s
 | e,s=> R e s

theorem bM.block {cx:Cx} {n0 id:Nat} {b:Code} {st:St} {R:Ex→St→Prop} (h:bM cx n0 b st (IX id R)):bM cx n0 (.block id b) st R:=by
 intro w0 W σ0 σ a w Q hn hs hr hq
 refine wp_block (h w0 W σ0 σ a w _ hn hs hr ?_)
 intro e st' σ' a' w' hR hs' hr'
 cases e with
 | normal=> exact hq .normal st' σ' a' w' hR hs' hr'
 | ret=> exact hq .ret st' σ' a' w' hR hs' hr'
 | exit j=>
   simp only [Ex.u6,Exit.inBlock]
   simp only [IX] at hR
   by_cases hj:j=id
   · rw [if_pos hj] at hR ⊢
     exact hq .normal st' σ' a' w' hR hs' hr'
   · rw [if_neg hj] at hR ⊢
     exact hq (.exit j) st' σ' a' w' hR hs' hr'

theorem bM.loop {cx:Cx} {n0:Nat} {b:Code} {R:Ex→St→Prop} (I:Nat→St→Prop)
 (hround: ∀ m s,I m s→bM cx n0 b s (andThen (fun s'=> ∃ m',m'<m∧I m' s') R)): ∀ (m:Nat) (st:St),I m st→bM cx n0 (.loop b) st R:=by
 intro m st hI w0 W σ0 σ a w Q hn hs hr hq
 refine wp_loop (fun a w=> ∃ m s σ,I m s∧Sub σ0 σ∧gL w0 W cx.ro σ s a w) (fun a w=> Classical.epsilon fun m=> ∃ s σ,I m s∧Sub σ0 σ∧gL w0 W cx.ro σ s a w∧
  ∀ m',(∃ s σ,I m' s∧Sub σ0 σ∧gL w0 W cx.ro σ s a w)→m≤m') ⟨m,st,σ,hI,hs,hr⟩ ?_
 intro a w hex
 -- the least number
 have hleast: ∃ m s σ,I m s∧Sub σ0 σ∧gL w0 W cx.ro σ s a w∧ ∀ m',(∃ s σ,I m' s∧Sub σ0 σ∧gL w0 W cx.ro σ s a w)→m≤m':=by
  obtain ⟨m,hm⟩:=hex
  induction m using Nat.strongRecOn with
  | _ m ih=>
    by_cases h: ∃ m',m'<m∧ ∃ s σ,I m' s∧Sub σ0 σ∧gL w0 W cx.ro σ s a w
    · obtain ⟨m',hlt,h'⟩:=h
      exact ih m' hlt h'
    · obtain ⟨s,σ,h1,h2,h3⟩:=hm
      refine ⟨m,s,σ,h1,h2,h3,fun m' hm'=> ?_⟩
      rcases Nat.lt_or_ge m' m with hlt | hge
      · exact absurd ⟨m',hlt,hm'⟩ h
      · exact hge
 have hspec:=Classical.epsilon_spec hleast
 generalize hmu:(Classical.epsilon fun m=> ∃ s σ,I m s∧Sub σ0 σ∧gL w0 W cx.ro σ s a w∧ ∀ m',(∃ s σ,I m' s∧Sub σ0 σ∧gL w0 W cx.ro σ s a w)→m≤m')=μ at hspec
 obtain ⟨s,σ1,h1,h2,h3,h4⟩:=hspec
 refine hround μ s h1 w0 W σ0 σ1 a w _ hn h2 h3 ?_
 intro e st' σ' a' w' hR hs' hr'
 cases e with
 | normal=>
   obtain ⟨m',hlt,hI'⟩:=hR
   refine ⟨⟨m',st',σ',hI',hs',hr'⟩,?_⟩
   have hex': ∃ m s σ,I m s∧Sub σ0 σ∧gL w0 W cx.ro σ s a' w'∧ ∀ m'',(∃ s σ,I m'' s∧Sub σ0 σ∧gL w0 W cx.ro σ s a' w')→m≤m'':=by
    have hm: ∃ s σ,I m' s∧Sub σ0 σ∧gL w0 W cx.ro σ s a' w':=⟨st',σ',hI',hs',hr'⟩
    clear hlt hI'
    induction m' using Nat.strongRecOn with
    | _ m ih=>
      by_cases h: ∃ m',m'<m∧ ∃ s σ,I m' s∧Sub σ0 σ∧gL w0 W cx.ro σ s a' w'
      · obtain ⟨m',hlt,h'⟩:=h
        exact ih m' hlt h'
      · obtain ⟨s,σ,h1,h2,h3⟩:=hm
        refine ⟨m,s,σ,h1,h2,h3,fun m' hm'=> ?_⟩
        rcases Nat.lt_or_ge m' m with hlt | hge
        · exact absurd ⟨m',hlt,hm'⟩ h
        · exact hge
   have hspec':=Classical.epsilon_spec hex'
   obtain ⟨_,_,_,_,_,h5⟩:=hspec'
   have:=h5 m' ⟨st',σ',hI',hs',hr'⟩
   omega
 | exit id=> exact hq _ st' σ' a' w' hR hs' hr'
 | ret=> exact hq _ st' σ' a' w' hR hs' hr'
end Vx

/-
  An executor of Go code on values of its own: forgetting; contracts out of code.
-/
namespace Vx
open Go Go.RowKit

def fgT (kt:List Nat):Nat→List V→List V
 | _,[]=> []
 | i,v::l=> (match kt.contains i with
   | true=> v
   | false=> .aC)::fgT kt (i+1) l

def fgH (keep:Nat→Bool):Nat→Nat→Hp→Hp
 | _,_,[]=> []
 | 0,_,_=> []
 | m+1,i,b::l=> (match keep i with
   | true=> b
   | false=> none)::fgH keep m (i+1) l

def ach (keep:Nat→Bool):List V→Bool
 | []=> true
 | v::l=> okV false keep v && ach keep l

def Zq (keep:Nat→Bool):Hp→Bool
 | []=> true
 | none::l=> Zq keep l
 | some b::l=> okC false keep b.c && Zq keep l

def jd (n0:Nat) (kh:List Nat) (i:Nat):Bool:=Nat.blt i n0 || kh.contains i

def UC (m:Nat):List Nat→Bool
 | []=> true
 | k::l=> Nat.blt k m && UC m l

def forget (n0:Nat) (kt kh:List Nat) (m:Nat) (s:St):Option St:=
 let k:=jd n0 kh
 let t:=fgT kt 0 s.t
 let h:=fgH k m 0 s.h
 match ach k t && Zq k h && UC m kh && Nat.ble n0 m with
 | true=> some ⟨t,h⟩
 | false=> none

section
variable {σ τ:Sg} {kp:Nat→Bool} {qm:Bool}

theorem KZ (v:V) (l:List V):gl (v::l) 0=v:=rfl
theorem KY (v:V) (l:List V) (i:Nat):gl (v::l) (i+1)=gl l i:=rfl

theorem Vo (kt:List Nat): ∀ (i:Nat) (l:List V),(fgT kt i l).length=l.length
 | _,[]=> rfl
 | i,_::l=> by simp [fgT,Vo kt (i+1) l]

theorem Vn (kt:List Nat): ∀ (l:List V) (i j:Nat),gl (fgT kt i l) j=gl l j∨gl (fgT kt i l) j= .aC
 | [],_,_=> .inl rfl
 | v::l,i,0=> by
   simp only [fgT,KZ]
   split
   · exact .inl rfl
   · exact .inr rfl
 | v::l,i,j+1=> by
   simp only [fgT,KY]
   exact Vn kt l (i+1) j

theorem Oz: ∀ (l:List V) (j:Nat),ach kp l=true→okV false kp (gl l j)=true
 | [],_,_=> rfl
 | v::l,0,h=> by simp only [ach,Bool.and_eq_true] at h; exact h.1
 | v::l,j+1,h=> by
   simp only [ach,Bool.and_eq_true] at h
   exact Oz l j h.2

theorem K5 (b:Option bQ) (l:Hp):hg (b::l) 0=b:=rfl
theorem K4 (b:Option bQ) (l:Hp) (i:Nat):hg (b::l) (i+1)=hg l i:=rfl

theorem KU: ∀ (h:Hp) (m i j:Nat),hg (fgH kp m i h) j=if j<m∧kp (i+j)=true then hg h j else none
 | [],m,i,j=> by cases m<;> (simp [fgH,hg])
 | b::l,0,i,j=> by simp [fgH,hg]
 | b::l,m+1,i,0=> by
   simp only [fgH,K5,Nat.add_zero]
   split
   · rename_i hk; simp [hk]
   · rename_i hk; simp [hk]
 | b::l,m+1,i,j+1=> by
   simp only [fgH,K4]
   rw [KU l m (i+1) j]
   have:i+1+j=i+(j+1):=by omega
   rw [this]
   simp

theorem Fy: ∀ (h:Hp) (j:Nat) (b:bQ),Zq kp h=true→hg h j=some b→okC false kp b.c=true
 | [],j,b,_,h=> by cases h
 | none::l,0,b,_,h=> by cases h
 | none::l,j+1,b,ho,h=> Fy l j b ho h
 | some c::l,0,b,ho,h=> by
   simp only [Zq,Bool.and_eq_true] at ho
   cases h
   exact ho.1
 | some c::l,j+1,b,ho,h=> by
   simp only [Zq,Bool.and_eq_true] at ho
   exact Fy l j b ho.2 h
end

theorem vk {a b:Nat}:Nat.blt a b=true↔a<b:=by simp [Nat.blt_eq]

theorem Iu {m:Nat}: ∀ {l:List Nat},UC m l=true→ ∀ k∈l,k<m
 | [],_,k,h=> by simp at h
 | x::l,h,k,hk=> by
   simp only [UC,Bool.and_eq_true,vk] at h
   rcases List.mem_cons.1 hk with rfl | hk
   · exact h.1
   · exact Iu h.2 k hk

theorem gL.forget {w0:World} {W:Nat→Prop} {ro n0:Nat} {kt kh:List Nat} {m:Nat} {σ0 σ:Sg} {st st':St} {a:Act} {w:World} (h:forget n0 kt kh m st=some st')
 (hn: ∀ i b,σ0 i=some b→i<n0) (hs:Sub σ0 σ) (hr:gL w0 W ro σ st a w): ∃ σ',Sub σ0 σ'∧gL w0 W ro σ' st' a w:=by
 unfold Vx.forget at h
 simp only at h
 split at h
 · rename_i hok
   cases h
   simp only [Bool.and_eq_true] at hok
   obtain ⟨⟨⟨h1,h2⟩,h3⟩,h4⟩:=hok
   have h4':n0≤m:=Nat.le_of_ble_eq_true h4
   have hlt: ∀ i,jd n0 kh i=true→i<m:=by
    intro i hi
    simp only [jd,Bool.or_eq_true,vk] at hi
    rcases hi with hi | hi
    · omega
    · exact Iu h3 i (by simpa using hi)
   refine ⟨⟨fun i=> if jd n0 kh i then σ i else none,σ.z,σ.w,σ.im⟩,⟨?_,hs.2.1,hs.2.2⟩,?_⟩
   · intro i b hi
     have:jd n0 kh i=true:=by simp only [jd,Bool.or_eq_true,vk]; exact .inl (hn i b hi)
     refine ⟨?_,(hs.1 i b hi).2⟩
     show (if jd n0 kh i=true then σ i else none)=some b
     rw [if_pos this]
     exact hs.get hi
   · have hk:Kp false (jd n0 kh) σ ⟨fun i=> if jd n0 kh i then σ i else none,σ.z,σ.w,σ.im⟩:=
      ⟨fun i hi=> if_pos hi,fun _ _ _ _=> rfl,fun _=> ⟨rfl,rfl⟩⟩
     have hget: ∀ i n,(if jd n0 kh i=true then σ i else none)=some n→jd n0 kh i=true∧σ i=some n:=by
      intro i n hi
      split at hi
      · exact ⟨by assumption,hi⟩
      · cases hi
     have hhg: ∀ i,jd n0 kh i=true→hg (fgH (jd n0 kh) m 0 st.h) i=hg st.h i:=by
      intro i hi
      simp only [KU,Nat.zero_add]
      rw [if_pos ⟨hlt i hi,hi⟩]
     have hdead: ∀ i,jd n0 kh i=true→dR st.h i→dR (fgH (jd n0 kh) m 0 st.h) i:=by
      rintro i hi ⟨e,he⟩
      exact ⟨e,by rw [hhg i hi]; exact he⟩
     refine ⟨hr.defers,?_,?_,?_⟩
     · refine ⟨by simp only [Vo]; exact hr.t.1,?_⟩
       intro i
       have hv:=hr.t.2 i
       have ho:=Oz _ i h1
       rcases Vn kt st.t 0 i with e | e
       · rw [e] at ho ⊢
         exact aQ.keep hk ho hv
       · simp only [e]; trivial
     · refine ⟨?_,?_,?_,?_,?_,hr.h.imm⟩
       · intro id b hb
         have ho:=Fy _ id b h2 hb
         simp only [KU,Nat.zero_add] at hb
         split at hb
         · rename_i hc
           rcases hr.h.blk id b hb with ⟨n,xs,e1,e2,e3⟩ | ⟨e1,e2⟩
           · exact .inl ⟨n,xs,by show (if jd n0 kh id=true then σ id else none)=some n; rw [if_pos hc.2]; exact e1,e2,fD.keep hk ho e3⟩
           · exact .inr ⟨e1,by show (if jd n0 kh id=true then σ id else none)=none; rw [if_pos hc.2]; exact e2⟩
         · cases hb
       · intro i j n hro hi hj
         obtain ⟨ki,hi⟩:=hget i n hi
         obtain ⟨kj,hj⟩:=hget j n hj
         rcases hr.h.inj i j n hro hi hj with e | e | e
         · exact .inl e
         · exact .inr (.inl (hdead i ki e))
         · exact .inr (.inr (hdead j kj e))
       · intro i n hi
         obtain ⟨ki,hi⟩:=hget i n hi
         obtain ⟨e1,e2⟩:=hr.h.live i n hi
         exact ⟨e1,by rw [hhg i ki]; exact e2⟩
       · intro i n hi
         obtain ⟨ki,hi⟩:=hget i n hi
         exact hr.h.siz i n hi
       · intro i n hro hi
         obtain ⟨ki,hi⟩:=hget i n hi
         exact hr.h.sep i n hro hi
     · refine hr.fr.sub ?_
       intro i b hi
       exact .inl (hget i b hi).2
 · cases h

theorem bM.forget {cx:Cx} {n0:Nat} {kt kh:List Nat} {m:Nat} {st st':St} {c:Code} {R:Ex→St→Prop} (h:forget n0 kt kh m st=some st') (hr:bM cx n0 c st' R):
 bM cx n0 c st R:=by
 intro w0 W σ0 σ a w Q hn hs hrep hq
 obtain ⟨σ',h1,h2⟩:=gL.forget h hn hs hrep
 exact hr w0 W σ0 σ' a w Q hn h1 h2 hq

def items:Code→List Code
 | .seq a b=> items a++items b
 | c=> [c]

def ae (cx:Cx) (n0:Nat):List Code→St→(Ex→St→Prop)→Prop
 | [],st,R=> ∀ (w0:World) (W:Nat→Prop) (σ0 σ:Sg) (a:Act) (w:World) (q:Prop),(∀ i b,σ0 i=some b→i<n0)→Sub σ0 σ→gL w0 W cx.ro σ st a w→
  (∀ st' σ',R .normal st'→Sub σ0 σ'→gL w0 W cx.ro σ' st' a w→q)→q
 | c::l,st,R=> bM cx n0 c st (andThen (fun s=> ae cx n0 l s R) R)

theorem ae.skip {cx:Cx} {n0:Nat} {st:St} {R:Ex→St→Prop} (h:ae cx n0 [] st R):bM cx n0 .skip st R:=by
 intro w0 W σ0 σ a w Q hn hs hr hq
 refine wp_skip ?_
 exact h w0 W σ0 σ a w _ hn hs hr fun st' σ' hR hs' hr'=> hq .normal st' σ' a w hR hs' hr'

theorem ae.append {cx:Cx} {n0:Nat}: ∀ {l m:List Code} {st:St} {R:Ex→St→Prop},ae cx n0 l st (andThen (fun s=> ae cx n0 m s R) R)→ae cx n0 (l++m) st R
 | [],m,st,R,h=> by
   cases m with
   | nil=>
     intro w0 W σ0 σ a w q hn hs hr hq
     refine h w0 W σ0 σ a w q hn hs hr ?_
     intro st' σ' hR hs' hr'
     exact hR w0 W σ0 σ' a w q hn hs' hr' hq
   | cons c m=>
     intro w0 W σ0 σ a w Q hn hs hr hq
     refine h w0 W σ0 σ a w _ hn hs hr ?_
     intro st' σ' hR hs' hr'
     exact hR w0 W σ0 σ' a w Q hn hs' hr' hq
 | c::l,m,st,R,h=> by
   simp only [List.cons_append]
   refine bM.mono (h:bM cx n0 c st _) ?_
   intro e s hes
   cases e with
   | normal=> exact ae.append hes
   | exit id=> exact hes
   | ret=> exact hes

theorem bM.items {cx:Cx} {n0:Nat}: ∀ (c:Code) (st:St) (R:Ex→St→Prop),ae cx n0 (Vx.items c) st R→bM cx n0 c st R:=by
 have one: ∀ {c:Code} {st:St} {R:Ex→St→Prop},ae cx n0 [c] st R→bM cx n0 c st R:=by
  intro c st R h w0 W σ0 σ a w Q hn hs hr hq
  refine (h:bM cx n0 c st _) w0 W σ0 σ a w _ hn hs hr ?_
  intro e s σ' a' w' hes hs' hr'
  cases e with
  | normal=>
    refine hes w0 W σ0 σ' a' w' _ hn hs' hr' ?_
    intro st' σ2 hR hs2 hr2
    exact hq .normal st' σ2 a' w' hR hs2 hr2
  | exit id=> exact hq _ s σ' a' w' hes hs' hr'
  | ret=> exact hq _ s σ' a' w' hes hs' hr'
 have split: ∀ {l m:List Code} {st:St} {R:Ex→St→Prop},ae cx n0 (l++m) st R→ae cx n0 l st (andThen (fun s=> ae cx n0 m s R) R):=by
  intro l
  induction l with
  | nil=>
    intro m st R h w0 W σ0 σ a w q hn hs hr hq
    exact hq st σ h hs hr
  | cons c l ih=>
    intro m st R h
    refine bM.mono (h:bM cx n0 c st _) ?_
    intro e s hes
    cases e with
    | normal=> exact ih hes
    | exit id=> exact hes
    | ret=> exact hes
 intro c
 induction c with
 | seq x y ihx ihy=>
   intro st R h
   refine bM.seq (ihx _ _ (RunsL_mono (split h) ?_))
   intro e s hes
   cases e with
   | normal=> exact ihy _ _ hes
   | exit id=> exact hes
   | ret=> exact hes
 | _=> intro st R h; exact one h
 where
 RunsL_mono {cx:Cx} {n0:Nat}: ∀ {l:List Code} {st:St} {R R':Ex→St→Prop},ae cx n0 l st R→(∀ e s,R e s→R' e s)→ae cx n0 l st R'
  | [],_,_,_,h,hi=> fun w0 W σ0 σ a w q hn hs hr hq=> h w0 W σ0 σ a w q hn hs hr fun st' σ' hR=> hq st' σ' (hi _ _ hR)
  | _::_,_,_,_,h,hi=> bM.mono h fun e s hes=> by
    cases e with
    | normal=> exact RunsL_mono hes hi
    | exit id=> exact hi _ _ hes
    | ret=> exact hi _ _ hes

noncomputable def evL (cx:Cx) (n:Nat):List Code→St→(Ex→St→Out)→Out
 | [],st,κ=> κ .normal st
 | c::l,st,κ=> ev cx n c st fun e s=> match e with
   | .normal=> evL cx n l s κ
   | e=> κ e s

noncomputable def iF (n0:Nat) (kt kh:List Nat) (m:Nat):Ex→St→Out:=fun e s=>
 match forget n0 kt kh m s with
 | some s'=> .done e s'
 | none=> .fail 11

theorem gV {cx:Cx} (hk:Ok cx) {n0 n:Nat} {out:Out} (hg:out.good): ∀ {l:List Code} {st:St} {κ:Ex→St→Out} {R:Ex→St→Prop},evL cx n l st κ=out→
 (∀ e s,κ e s=out→ae cx n0 [] s (fun _ s'=> R e s'))→ae cx n0 l st R
 | [],st,κ,R,h,hR=> by
   intro w0 W σ0 σ a w q hn hs hr hq
   exact hR .normal st h w0 W σ0 σ a w q hn hs hr hq
 | c::l,st,κ,R,h,hR=> by
   intro w0 W σ0 σ a w Q hn hs hr hq
   refine (NB (w0:=w0) (W:=W) hk.tab hk.mix hk.il hk.js n hg).1 c st _ Q σ a w h hr ?_
   intro e s σ' a' w' hκ hs' hr'
   cases e with
   | normal=> exact hq .normal s σ' a' w' (gV hk hg (l:=l) hκ hR) (hs.trans hs') hr'
   | exit id=>
     refine hR (.exit id) s hκ w0 W σ0 σ' a' w' _ hn (hs.trans hs') hr' ?_
     intro st' σ2 h2 hs2 hr2
     exact hq (.exit id) st' σ2 a' w' h2 hs2 hr2
   | ret=>
     refine hR .ret s hκ w0 W σ0 σ' a' w' _ hn (hs.trans hs') hr' ?_
     intro st' σ2 h2 hs2 hr2
     exact hq .ret st' σ2 a' w' h2 hs2 hr2

theorem ae.pre {cx:Cx} (hk:Ok cx) {n0 n k:Nat} {kt kh:List Nat} {m:Nat} {l:List Code} {st st':St} {e:Ex} {R:Ex→St→Prop}
 (h:evL cx n (l.take k) st (iF n0 kt kh m)= .done e st') (hR:andThen (fun s=> ae cx n0 (l.drop k) s R) R e st'):ae cx n0 l st R:=by
 rw [← List.take_append_drop k l]
 refine ae.append (gV hk (out:= .done e st') trivial h ?_)
 intro e2 s hκ w0 W σ0 σ a w q hn hs hr hq
 unfold iF at hκ
 split at hκ
 · rename_i s' hf
   cases hκ
   obtain ⟨σ',h1,h2⟩:=gL.forget hf hn hs hr
   exact hq st' σ' hR h1 h2
 · cases hκ

theorem ae.nil {cx:Cx} {n0:Nat} {st:St} {R:Ex→St→Prop} (h:R .normal st):ae cx n0 [] st R:=
 fun _ _ _ σ _ _ _ _ hs hr hq=> hq st σ h hs hr
end Vx

/-
  An executor of Go code on values of its own: contracts out of code.
-/
namespace Vx
open Go Go.RowKit

def ajD (base:Nat):L→L
 | .ptr _ off=> .ptr base off
 | .jA _ s i r=> .jA base s i r
 | .sl _ off n c=> .sl base off n c
 | .row _ s off n mx=> .row base s off n mx
 | .CV f caps=> .CV f (caps.map fun p=> (base,p.2))
 | l=> l

def ajE (base:Nat):List L→List L
 | []=> []
 | l::ls=> ajD base l::ajE base ls

def ajF (base:Nat):U→U
 | .one l=> .one (ajD base l)
 | .ag (.ps l)=> .ag (.ps (ajE base l))
 | .ag c=> .ag c

def ahX (base:Nat):List U→List U
 | []=> []
 | u::us=> ajF base u::ahX base us

def alu (base:Nat):V→V
 | .aC=> .aC
 | .u x=> .u (ajF base x)
 | .dX xs=> .dX (ahX base xs)

def no1:Nat→Bool:=fun _=> false
def abD (v:V):Bool:=okV true no1 v
def ahI (c:C):Bool:=okC true no1 c

def idL:List L→Option Nat
 | []=> none
 | .ptr id _::_=> some id
 | .jA id _ _ _::_=> some id
 | .sl id _ _ _::_=> some id
 | .row id _ _ _ _::_=> some id
 | .CV _ ((id,_)::_)::_=> some id
 | _::ls=> idL ls

def idU:U→Option Nat
 | .one l=> idL [l]
 | .ag (.ps l)=> idL l
 | .ag _=> none

def alm:List U→Option Nat
 | []=> none
 | u::us=> match idU u with
   | some i=> some i
   | none=> alm us

def idV:V→Option Nat
 | .aC=> none
 | .u x=> idU x
 | .dX xs=> alm xs

noncomputable def jv (cx:Cx) (fn:Func) (base:Nat):Ex→St→Out:=fun e s=>
 match e with
 | .exit _=> .fail 20
 | _=> match ED cx.P fn s with
   | none=> .fail 21
   | some v=> match idV v with
     | none=> match abD v with
       | true=> .done .ret ⟨[v],[]⟩
       | false=> .fail 22
     | some k=> match hg s.h k with
       | none=> .fail 23
       | some b=> match Nat.ble cx.ro k && (nu b.c && ahI b.c) && okV true (Nat.beq k) v with
         | true=> .done .ret ⟨[alu base v],[some b]⟩
         | false=> .fail 24

def aL (v v':V):Prop:= ∀ σ x,aQ σ v x→aQ σ v' x
def kF (c c':C):Prop:= ∀ σ xs,fD σ c xs→fD σ c' xs

theorem aL.refl (v:V):aL v v:=fun _ _ h=> h
theorem kF.refl (v:C):kF v v:=fun _ _ h=> h

def aaI:List bQ→List bQ→Prop
 | [],[]=> True
 | [b],[b']=> b.elem=b'.elem∧kF b.c b'.c∧ ∀ ts,b.c= .row ts []→ ∃ ts',b'.c= .row ts' []
 | _,_=> False

def Post (cx:Cx) (fn:Func) (base:Nat) (v:V) (bs:List bQ):Ex→St→Prop:=fun e s=>
 ∃ v0 bs0,jv cx fn base e s= .done .ret ⟨[v0],bs0.map some⟩∧aL v0 v∧aaI bs0 bs

def oH (w:World):Sg:=⟨fun _=> none,fun _=> 0,w,fun n=> n<w.heap.size⟩

theorem Kp.no {σ τ:Sg}:Kp true no1 σ τ:=⟨fun _ h=> (by cases h),fun _ _ h=> (by cases h),fun h=> (by cases h)⟩

theorem aQ.flat {σ τ:Sg} {v:V} {x:Value} (hf:abD v=true) (h:aQ σ v x):aQ τ v x:=aQ.keep Kp.no hf h
theorem fD.flat {σ τ:Sg} {v:C} {x:List Value} (hf:ahI v=true) (h:fD σ v x):fD τ v x:=fD.keep Kp.no hf h

theorem eH.heap {W W':World} {b o:Nat} {ys:List Value} (h:W'.heap[b]? =W.heap[b]?) (hc:eH W b o ys):eH W' b o ys:=
 fun j v hj=> by rw [World.cell?_of_block (w:=W) (w':=W') h]; exact hc j v hj

mutual
theorem eF.yE {W W':World} {im im':Nat→Prop} (h: ∀ n,im n→im' n∧W'.heap[n]? =W.heap[n]?): ∀ (t:LT) (d:D) (xs:List Value),eF W im t d xs→eF W' im' t d xs
 | .pk ..,_,_,hd=> by simp only [eF] at hd ⊢; exact hd
 | .int _,_,_,hd=> by simp only [eF] at hd ⊢; exact hd
 | .bool,_,_,hd=> by simp only [eF] at hd ⊢; exact hd
 | .str,_,_,hd=> by simp only [eF] at hd ⊢; exact hd
 | .sl ts,d,xs,hd=> by
   simp only [eF] at hd ⊢
   obtain ⟨a,cap,e,h1,h2⟩:=hd
   refine ⟨a,cap,e,h1,h2.imp_right ?_⟩
   rintro ⟨b,o,e1,hb,h3⟩
   refine ⟨b,o,e1,(h b hb).1,fun i e hi=> ?_⟩
   obtain ⟨ys,h4,h5⟩:=h3 i e hi
   exact ⟨ys,aT.yE h ts e ys h4,h5.heap (h b hb).2⟩
theorem aT.yE {W W':World} {im im':Nat→Prop} (h: ∀ n,im n→im' n∧W'.heap[n]? =W.heap[n]?): ∀ (t:List LT) (d:List D) (xs:List Value),aT W im t d xs→aT W' im' t d xs
 | [],_,_,hd=> by simp only [aT] at hd ⊢; exact hd
 | t::ts,d,xs,hd=> by
   simp only [aT] at hd ⊢
   obtain ⟨ys,zs,e,h1,h2⟩:=hd
   exact ⟨ys,zs,e,eF.yE h t _ ys h1,aT.yE h ts _ zs h2⟩
end

section
variable {ro:Nat} {σ:Sg} {h:Hp} {w:World}

theorem bT.yE (hh:bT ro σ h w): ∀ n,σ.im n→(oH w).im n∧w.heap[n]? =σ.w.heap[n]? :=fun n hn=> hh.imm n hn

theorem dV.yE (hh:bT ro σ h w) {l:L} {xs:List Value} (ho:SF false no1 l=true) (hl:dV σ l xs):dV (oH w) l xs:=by
 cases l with
 | ptr=> cases ho
 | jA=> cases ho
 | sl=> cases ho
 | row=> cases ho
 | rd ts x=> simp only [dV] at hl ⊢; exact eF.yE hh.yE _ _ _ hl
 | rp ts x off=>
   simp only [dV] at hl ⊢
   obtain ⟨b,o,ys,e,hb,h1,h2⟩:=hl
   exact ⟨b,o,ys,e,(hh.yE b hb).1,aT.yE hh.yE _ _ _ h1,h2.heap (hh.yE b hb).2⟩
 | CV f caps=>
   obtain ⟨vals,e,hall⟩:=hl
   cases hall with
   | nil=> exact ⟨[],e, .nil⟩
   | cons _ _=> simp [SF,no1] at ho
 | _=> exact hl

theorem aX.yE (hh:bT ro σ h w): ∀ {l:List L} {xs:List Value},Zr false no1 l=true→aX σ l xs→aX (oH w) l xs
 | [],_,_,h=> h
 | _::_,_,ho,⟨ys,zs,e,h1,h2⟩=> by
   simp only [Zr,Bool.and_eq_true] at ho
   exact ⟨ys,zs,e,h1.yE hh ho.1,aX.yE hh ho.2 h2⟩
end

theorem VX {σ τ:Sg} {k base:Nat} {v:V} {x:Value} (hk: ∀ n,σ k=some n→τ base=some n∧τ.z n=σ.z n) (ho:okV true (Nat.beq k) v=true) (h:aQ σ v x):aQ τ (alu base v) x:=by
 have hL: ∀ {l:L} {xs:List Value},SF true (Nat.beq k) l=true→dV σ l xs→dV τ (ajD base l) xs:=by
  intro l xs ho h
  cases l with
  | ptr id off=>
    have:k=id:=by simpa [SF] using ho
    subst this
    obtain ⟨b,h1,h2⟩:=h
    exact ⟨_,(hk b h1).1,h2⟩
  | jA id s i r=>
    have:k=id:=by simpa [SF] using ho
    subst this
    obtain ⟨b,h1,h2⟩:=h
    exact ⟨_,(hk b h1).1,h2⟩
  | sl id off m c=>
    have:k=id:=by simpa [SF] using ho
    subst this
    obtain ⟨b,h1,h2⟩:=h
    exact ⟨_,(hk b h1).1,h2⟩
  | row id s off m mx=>
    have:k=id:=by simpa [SF] using ho
    subst this
    rcases h with ⟨b,cap,hb,hz,r⟩ | h
    · exact .inl ⟨b,cap,(hk b hb).1,by rw [(hk b hb).2]; exact hz,r⟩
    · exact .inr h
  | rd=> cases ho
  | rp=> cases ho
  | CV f caps=>
    obtain ⟨vals,e,hall⟩:=h
    refine ⟨vals,e,?_⟩
    clear e
    simp only [SF] at ho
    induction hall with
    | nil=> exact .nil
    | cons h1 _ ih=>
      simp only [List.all_cons,Bool.and_eq_true] at ho
      obtain ⟨b,hb,e2⟩:=h1
      have:=Nat.eq_of_beq_eq_true ho.1
      subst this
      exact .cons ⟨b,(hk b hb).1,e2⟩ (ih ho.2)
  | _=> exact h
 have hP: ∀ {l:List L} {xs:List Value},Zr true (Nat.beq k) l=true→aX σ l xs→aX τ (ajE base l) xs:=by
  intro l
  induction l with
  | nil=> intro xs _ h; exact h
  | cons l ls ih=>
    intro xs ho h
    simp only [Zr,Bool.and_eq_true] at ho
    obtain ⟨ys,zs,e,h1,h2⟩:=h
    exact ⟨ys,zs,e,hL ho.1 h1,ih ho.2 h2⟩
 have hU: ∀ {u:U} {x:Value},okU true (Nat.beq k) u=true→mP σ u x→mP τ (ajF base u) x:=by
  intro u x ho h
  cases u with
  | one l=> exact ⟨h.1,hL ho h.2⟩
  | ag c=>
    cases c with
    | ps l=> obtain ⟨xs,e,hc⟩:=h; exact ⟨xs,e,hP ho hc⟩
    | big s c f=>
      obtain ⟨xs,e,hc⟩:=h
      refine ⟨xs,e,hc.1,fun i hi=> ⟨aX.keep Kp.no (C9 (hc.2 i hi).2) (hc.2 i hi).1,(hc.2 i hi).2⟩⟩
    | row ts y=>
      obtain ⟨xs,e,hc⟩:=h
      exact ⟨xs,e,fD.keep (c:= .row ts y) (qm:=true) Kp.no ho hc⟩
    | dead=>
      obtain ⟨xs,e,hc⟩:=h
      exact ⟨xs,e,trivial⟩
 cases v with
 | aC=> trivial
 | u y=> exact hU ho h
 | dX ys=>
   obtain ⟨xs,e,ha⟩:=h
   refine ⟨xs,e,?_⟩
   clear e
   simp only [okV] at ho
   induction ha with
   | nil=> exact .nil
   | cons h1 _ ih=>
     simp only [agp,Bool.and_eq_true] at ho
     exact .cons (hU ho.1 h1) (ih ho.2)

theorem map_some_inj: ∀ {a b:List bQ},a.map some=b.map some→a=b
 | [],[],_=> rfl
 | [],_::_,h=> by simp at h
 | _::_,[],h=> by simp at h
 | x::a,y::b,h=> by
   simp only [List.map_cons,List.cons.injEq,Option.some.injEq] at h
   rw [h.1,map_some_inj h.2]

theorem Sk {cx:Cx} {fn:Func} {base:Nat} {e:Ex} {s:St} {v:V} {bs:List bQ} {a:Act} {w w':World} {σ σ':Sg}
 (h:jv cx fn base e s= .done .ret ⟨[v],bs.map some⟩) (hr:gL w (fun _=> False) cx.ro σ' s a w'):
 (e= .normal∨e= .ret)∧ ∃ x,(results fn a.tmps).run cx.P w'= .ok x w'∧ ∃ τ,aQ τ v x∧tJ base σ τ w w' bs:=by
 unfold jv at h
 split at h
 · cases h
 · rename_i hne
   refine ⟨by cases e with
    | normal=> exact .inl rfl
    | ret=> exact .inr rfl
    | exit id=> exact absurd rfl (hne id),?_⟩
   split at h
   · cases h
   · rename_i v0 hv0
     obtain ⟨x,hx,hvx⟩:=pg hv0 hr.t hr.h
     refine ⟨x,hx,?_⟩
     split at h
     · split at h
       · rename_i hfl
         simp only [Out.done.injEq,St.mk.injEq,List.cons.injEq,and_true,true_and] at h
         obtain ⟨rfl,h2⟩:=h
         have:bs= []:=by cases bs with
          | nil=> rfl
          | cons _ _=> simp at h2
         subst this
         exact ⟨σ,hvx.flat hfl,rfl⟩
       · cases h
     · rename_i k hk
       split at h
       · cases h
       · rename_i b hb
         split at h
         · rename_i hc
           simp only [Out.done.injEq,St.mk.injEq,List.cons.injEq,and_true,true_and] at h
           obtain ⟨rfl,h2⟩:=h
           have:bs= [b]:=map_some_inj (b:= [b]) h2.symm
           subst this
           simp only [Bool.and_eq_true] at hc
           obtain ⟨⟨h1,h0,h2⟩,h3⟩:=hc
           have hro:cx.ro≤k:=Nat.le_of_ble_eq_true h1
           rcases hr.h.blk k b hb with ⟨n,xs,e1,e2,e3⟩ | ⟨e1,e2⟩
           · have hn:=hr.fr.own k n e1 hro
             have hn':w.heap.size≤n:=hn.elim (fun h=> h.elim) id
             have hz:xs.length=σ'.z n:=by
              obtain ⟨cs,t,fr,g1,g2⟩:=hr.h.siz k n e1
              obtain ⟨fr0,e20,_⟩:=(show _ from e2)
              rw [e20] at g1
              cases g1
              simpa using g2
             refine ⟨upd σ base n xs.length,VX (fun m hm=> ?_) h3 hvx, .inl ⟨n,xs,hn',(hr.h.live k n e1).1,rfl,e2,e3.flat h2⟩⟩
             rw [e1] at hm
             cases hm
             refine ⟨dZ _ _ _ _,?_⟩
             show (if n=n then xs.length else σ.z n)=σ'.z n
             rw [if_pos rfl]; exact hz
           · refine ⟨σ,VX (fun m hm=> by rw [e2] at hm; cases hm) h3 hvx, .inr ⟨rfl,?_⟩⟩
             rcases e1 with e1 | e1
             · rw [e1] at h0
               cases h0
             · exact e1
         · cases h

theorem Vq {P : Program} {f : FuncId} {fn : Func} {c : Code} (hf : P.funcs[f]? = some fn) (hb : fn.body = some c) (hname : (fn.name == "runtime.NumGoroutine") = false)
 {base:Nat} {vs:List V} {v:V} {bs:List bQ} {σ:Sg} {w:World} {vals:List Value} (hvals:eD (aQ (oH w)) vs vals)
 {cx':Cx} (hP:cx'.P=P) (hruns:bM cx' 0 c ⟨t0 fn vs,[]⟩ (Post cx' fn base v bs)):
 iD P f vals.toArray w fun x w'=> ∃ σ',Below w.heap.size w w'∧aQ σ' v x∧tJ base σ σ' w w' bs:=by
 have hrun:(callFunc f vals.toArray).run P w= .ok (.enter f vals.toArray) w:=by
  simp only [callFunc,Sem.run_bind,run_program,Result.andThen_ok,hf]
  rw [if_neg (by rw [hname]; simp)]
  simp [hb]
 unfold iD
 rw [hrun]
 have hl:vals.length=vs.length:=by
  have hlen: ∀ {us:List V} {xs:List Value},eD (aQ (oH w)) us xs→xs.length=us.length:=by
   intro us xs h
   induction h with
   | nil=> rfl
   | cons _ _ ih=> simp [ih]
  exact hlen hvals
 have hgl: ∀ (l:List V) (vs:List Value) (m i:Nat),eD (aQ (oH w)) l vs→aQ (oH w) (gl (l++List.replicate m bW) i) ((vs++List.replicate m undef).getD i undef):=by
  intro l vs m i hall
  induction hall generalizing i with
  | nil=>
    have e1:gl ([]++List.replicate m bW) i=bW:=by
     unfold gl
     rw [List.getD_eq_getElem?_getD,List.nil_append,List.getElem?_replicate]
     split<;> rfl
    have e2:([]++List.replicate m undef).getD i undef=undef:=by
     rw [List.getD_eq_getElem?_getD,List.nil_append,List.getElem?_replicate]
     split<;> rfl
    rw [e1,e2]
    exact vX _
  | cons h1 _ ih=>
    cases i with
    | zero=> exact h1
    | succ i=> exact ih i
 have hrep:gL w (fun _=> False) cx'.ro (oH w) ⟨t0 fn vs,[]⟩ { tmps:=vals.toArray++Array.replicate (fn.ntmps - vals.toArray.size) undef,defers:= [] } w:=by
  refine ⟨rfl,⟨?_,?_⟩,⟨?_,?_,?_,?_,?_,?_⟩,⟨rfl,rfl,rfl,Nat.le_refl _,fun _ _ _=> rfl,?_⟩⟩
  · simp [t0,hl]
  · intro i
    have h1:=hgl _ _ (fn.ntmps - vs.length) i hvals
    have e:(vals.toArray++Array.replicate (fn.ntmps - vals.toArray.size) undef).getD i undef=(vals++List.replicate (fn.ntmps - vs.length) undef).getD i undef:=by
     rw [Array.getD_eq_getD_getElem?,List.getD_eq_getElem?_getD]
     rw [← Array.getElem?_toList]
     simp [hl]
    rw [e]
    exact h1
  · intro id b hid; cases hid
  · intro i j n _ hi; cases hi
  · intro i n hi; cases hi
  · intro i n hi; cases hi
  · intro i n _ hi; cases hi
  · intro n hn; exact ⟨hn,rfl⟩
  · intro i b hi; cases hi
 refine calls_of_wp hf hb ?_
 rw [← hP]
 refine hruns w (fun _=> False) (oH w) (oH w) _ w _ (fun _ _ h=> by cases h) (Sub.refl _) hrep ?_
 rintro e st' σ' a' w' ⟨v0,bs0,hk,hve,hbe⟩ hsub hr'
 obtain ⟨he,x,hx,τ,hvx,hnew⟩:=Sk (σ:=σ) hk hr'
 have hbelow:Below w.heap.size w w':=⟨hr'.fr.os,hr'.fr.tape,hr'.fr.output,hr'.fr.size,fun k hk=> hr'.fr.old k hk (fun h=> h)⟩
 have hnew':tJ base σ τ w w' bs:=by
  cases bs0 with
  | nil=> cases bs with
    | nil=> exact hnew
    | cons _ _=> exact hbe.elim
  | cons b0 l0=> cases l0 with
    | cons _ _=> cases bs<;> exact hbe.elim
    | nil=> cases bs with
      | nil=> exact hbe.elim
      | cons b l=> cases l with
        | cons _ _=> exact hbe.elim
        | nil=>
          rcases hnew with ⟨n,xs,h1,h2,h3,h4,h5⟩ | ⟨h1,ts,h2⟩
          · exact .inl ⟨n,xs,h1,h2,h3,by rw [← hbe.1]; exact h4,hbe.2.1 _ _ h5⟩
          · exact .inr ⟨h1,hbe.2.2 ts h2⟩
 rcases he with rfl | rfl
 · exact ⟨hr'.defers,x,hx,τ,hbelow,hve _ _ hvx,hnew'⟩
 · exact ⟨hr'.defers,x,hx,τ,hbelow,hve _ _ hvx,hnew'⟩

theorem ek {cx:Cx} (hk:Ok cx) {fn:Func} {n0 n base:Nat} {c:Code} {st:St} {v v0:V} {bs bs0:List bQ}
 (h:ev cx n c st (jv cx fn base)= .done .ret ⟨[v0],bs0.map some⟩) (hv:aL v0 v) (hb:aaI bs0 bs):bM cx n0 c st (Post cx fn base v bs):=by
 intro w0 W σ0 σ a w Q _ hs hr hq
 refine (NB (w0:=w0) (W:=W) hk.tab hk.mix hk.il hk.js n (out:= .done .ret ⟨[v0],bs0.map some⟩) trivial).1 c st _ Q σ a w h hr ?_
 intro e s σ' a' w' hκ hs' hr'
 exact hq e s σ' a' w' ⟨v0,bs0,hκ,hv,hb⟩ (hs.trans hs') hr'

theorem Ga {cx:Cx} (hk:Ok cx) {fn:Func} {n0 n base:Nat} {l:List Code} {st:St} {v v0:V} {bs bs0:List bQ}
 (h:evL cx n l st (jv cx fn base)= .done .ret ⟨[v0],bs0.map some⟩) (hv:aL v0 v) (hb:aaI bs0 bs):ae cx n0 l st (Post cx fn base v bs):=by
 refine gV hk (out:= .done .ret ⟨[v0],bs0.map some⟩) trivial h ?_
 intro e s hκ w0 W σ0 σ a w q hn hs hr hq
 exact hq s σ ⟨v0,bs0,hκ,hv,hb⟩ hs hr
end Vx

/-
  An executor of Go code on values of its own: contracts by the form of the arguments.
-/
namespace Vx
open Go Go.RowKit

inductive Ty where
 | one (t:LT)
 | ag (ts:List LT)
 | fnc (f:FuncId)
 | ptr (ts:List LT)
 | agl

def YQ:Ty→V→Option (List D)
 | .one t, .u (.one l)=> match l with
   | .pk .. => none
   | l=> wL [t] [l]
 | .ag ts, .u (.ag (.ps l))=> wL ts l
 | .fnc f, .u (.one (.fn g))=> match Nat.beq f g with
   | true=> some []
   | false=> none
 | .agl, .u (.one .fG)=> some []
 | _,_=> none

def bn:Ty→List D→Option (V × List D)
 | .one t,ds=> match bF [t] ds with
   | some ([l],r)=> some (.one l,r)
   | _=> none
 | .ag ts,ds=> match bF ts ds with
   | some (ls,r)=> some (.ag (.ps ls),r)
   | none=> none
 | .fnc f,ds=> some (.one (.fn f),ds)
 | .agl,ds=> some (.one .fG,ds)
 | .ptr ts, .l (d::_)::r=> some (.one (.rp ts d 0),r)
 | .ptr _,_=> none

def afL:V→Bool
 | .u (.one (.sl _ _ len cap))=> Nat.ble len cap && Nat.ble cap maxLen
 | _=> true

def zo:List (Nat × bQ)→Nat→Option bQ
 | [],_=> none
 | (j,b)::l,i=> match Nat.beq i j with
   | true=> some b
   | false=> zo l i

def II (D1:LT→List L→Option (List Bool × D × List L)):List LT→List L→Option (List Bool × List D × List L)
 | [],l=> some ([],[],l)
 | t::ts,l=> match D1 t l with
   | some (c,d,r)=> match II D1 ts r with
     | some (c',ds,r')=> some (c++c',d::ds,r')
     | none=> none
   | none=> none
def U1 (D1:LT→List L→Option (List Bool × D × List L)) (ts:List LT):Nat→List L→Option (List Bool × List (List D))
 | 0,_=> some ([],[])
 | n+1,l=> match II D1 ts l with
   | some (c,d,r)=> match U1 D1 ts n r with
     | some (c',ds)=> some (c++c',d::ds)
     | none=> none
   | none=> none
def Ei:Nat→(Nat→Option bQ)→LT→List L→Option (List Bool × D × List L)
 | 0,_=> fun t l=> match Kr t l with
   | some (d,r)=> some ([],d,r)
   | none=> none
 | f+1,g=> fun t l=> match t,l with
   | .sl ts,x::r=> match afL (.one x),ko ts g (.one x) with
     | true,some (c,y)=> some (c, .l y,r)
     | _,_=> match x with
       | .sl id off len cap=> match Nat.ble len cap && Nat.ble cap maxLen,g id with
         | true,some b=> match b.c with
           | .ps q=> match iO q off with
             | some (_,z)=> match U1 (Ei f g) ts len z with
               | some (c,y)=> some (c, .l y,r)
               | none=> none
             | none=> none
           | _=> none
         | _,_=> none
       | _=> none
   | t,l=> match Kr t l with
     | some (d,r)=> some ([],d,r)
     | none=> none

def ajb (t:Ty) (v:V) (o:List (Nat × bQ)):Option (List Bool × List D):=
 match t with
 | .one (.sl ts)=> match afL v,ko ts (zo o) v with
   | true,some (c,y)=> some (c,[.l y])
   | _,_=> match v with
     | .u (.one l)=> match Ei 4 (zo o) (.sl ts) [l] with
       | some (c,d,[])=> some (c,[d])
       | _=> none
     | _=> none
 | .ptr ts=> match v with
   | .u (.one (.ptr id 0))=> match zo o id with
     | some b=> match b.c with
       | .ps l=> match wL ts l with
         | some d=> some ([],[.l [d]])
         | none=> match II (Ei 4 (zo o)) ts l with
           | some (c,d,[])=> some (c,[.l [d]])
           | _=> none
       | _=> none
     | none=> none
   | _=> none
 | .ag ts=> match v with
   | .u (.ag (.ps l))=> match wL ts l with
     | some d=> some ([],d)
     | none=> match II (Ei 4 (zo o)) ts l with
       | some (c,d,[])=> some (c,d)
       | _=> none
   | _=> none
 | t=> match YQ t v with
   | some d=> some ([],d)
   | none=> none

def RB:List Ty→List (V × List (Nat × bQ))→Option (List Bool × List D)
 | [],[]=> some ([],[])
 | t::ts,(v,o)::l=> match ajb t v o,RB ts l with
   | some (c,a),some (d,b)=> some (c++d,a++b)
   | _,_=> none
 | _,_=> none

def bq:List Ty→List D→Option (List V)
 | [],[]=> some []
 | t::ts,ds=> match bn t ds with
   | some (v,r)=> match bq ts r with
     | some vs=> some (v::vs)
     | none=> none
   | none=> none
 | _,_=> none

theorem YT {t:LT} {d:D} {x:L} (h:bD t d=some x):SF false no1 x=true:=by
 unfold bD at h
 split at h<;> cases h<;> rfl

theorem xI: ∀ {ts:List LT} {l:List L} {ds:List D},wL ts l=some ds→ ∃ ls,(∀ rest,bF ts (ds++rest)=some (ls,rest))∧Zr false no1 ls=true∧
 ∀ σ xs,aX σ l xs→aX σ ls xs
 | [],[],ds,h=> by
   cases h
   exact ⟨[],fun _=> rfl,rfl,fun _ _ h=> h⟩
 | [],_::_,ds,h=> by simp [wL] at h
 | t::ts,l,ds,h=> by
   simp only [wL] at h
   split at h
   · rename_i d r hd
     split at h
     · rename_i ds' hds
       cases h
       obtain ⟨ls,h1,h2,h3⟩:=xI hds
       cases hx:bD t d with
       | none=>
         refine ⟨[],?_⟩
         exfalso
         unfold Kr at hd
         (repeat' split at hd)<;> first | (cases hd; done) | (cases hd; simp [bD] at hx)
       | some x=>
         refine ⟨x::ls,?_,?_,?_⟩
         · intro rest
           simp only [List.cons_append,bF,hx,h1]
         · simp only [Zr,Bool.and_eq_true]
           exact ⟨YT hx,h2⟩
         · intro σ xs hp
           obtain ⟨x',ys,zs,e1,e2,e3,e4⟩:=xH hd hp
           rw [hx] at e1
           cases e1
           exact ⟨ys,zs,e2,e3,h3 σ zs e4⟩
     · cases h
   · cases h

theorem Ej {t:Ty} {v:V} {ds:List D} (h:YQ t v=some ds): ∃ v',(∀ rest,bn t (ds++rest)=some (v',rest))∧okV false no1 v'=true∧aL v v':=by
 unfold YQ at h
 split at h
 · rename_i t l
   split at h
   · cases h
   · rename_i l' hnp
     obtain ⟨ls,h1,h2,h3⟩:=xI h
     have hlen: ∃ x,ls= [x]:=by
      have:=h1 []
      simp only [List.append_nil] at this
      cases ds with
      | nil=> simp [bF] at this
      | cons d ds=>
        simp only [bF] at this
        cases he:bD t d with
        | none=> rw [he] at this; cases this
        | some x=> rw [he] at this; simp only [Option.some.injEq,Prod.mk.injEq] at this; exact ⟨x,this.1.symm⟩
     obtain ⟨x,rfl⟩:=hlen
     refine ⟨.one x,?_,?_,?_⟩
     · intro rest; simp only [bn,h1]
     · simpa [okV,okU,Zr] using h2
     · intro σ y hy
       obtain ⟨e1,e2⟩:=hy
       refine ⟨e1,?_⟩
       obtain ⟨ys,zs,e,hl,hz⟩:=h3 σ [y] ⟨[y],[],rfl,e2,rfl⟩
       cases hz
       simp only [List.append_nil] at e
       rw [e]; exact hl
 · rename_i ts l
   obtain ⟨ls,h1,h2,h3⟩:=xI h
   refine ⟨.ag (.ps ls),?_,?_,?_⟩
   · intro rest; simp only [bn,h1]
   · simpa [okV,okU,okC] using h2
   · intro σ y hy
     obtain ⟨xs,e,hc⟩:=hy
     exact ⟨xs,e,h3 σ xs hc⟩
 · rename_i f g
   split at h
   · rename_i hb
     cases h
     have:=Nat.eq_of_beq_eq_true hb
     subst this
     exact ⟨.one (.fn f),fun rest=> rfl,rfl,aL.refl _⟩
   · cases h
 · cases h
   exact ⟨.one .fG,fun rest=> rfl,rfl,aL.refl _⟩
 · cases h

theorem nT {w:World} {n o s:Nat} {xs:List Value} {t:TypeId} (hg:fA w n xs t):eH w n o ((xs.drop o).take s):=by
 obtain ⟨fr,hg,_⟩:=hg
 intro j v hj
 have hjs:j<s:=by
  have:=(List.getElem?_eq_some_iff.1 hj).1
  rw [List.length_take] at this
  omega
 rw [List.getElem?_take_of_lt hjs,List.getElem?_drop] at hj
 simp [World.cell?,hg,hj]

section
variable {ro:Nat} {σ:Sg} {h:Hp} {w:World}

theorem U6 {ts:List LT} {v:V} {chk:List Bool} {y:List (List D)} {x:Value} (hc:afL v=true) (he:ko ts (hg h) v=some (chk,y)) (ht:allT chk) (hv:aQ σ v x) (hh:bT ro σ h w):
 eF w (fun n=> n<w.heap.size) (.sl ts) (.l y) [x]:=by
 simp only [eF,D.wR]
 unfold ko at he
 split at he
 · cases he
   obtain ⟨_,e⟩:=hv
   have e: [x]= [.slice none 0 0]:=e
   cases e
   exact ⟨none,0,rfl,⟨Nat.le_refl _,Nat.zero_le _⟩, .inl rfl⟩
 · rename_i us d
   split at he
   · rename_i hts
     cases he
     have:=lW hts
     subst this
     obtain ⟨_,hd⟩:=hv
     have:=eF.yE hh.yE _ _ _ (show eF σ.w σ.im (.sl ts) (.l y) [x] from hd)
     simp only [eF,D.wR] at this
     exact this
   · cases he
 · rename_i id s off len mx
   split at he
   · rename_i b hb
     split at he
     · rename_i us d hbc
       split at he
       · rename_i hts
         cases he
         simp only [Bool.and_eq_true] at hts
         have:=lW hts.1
         subst this
         have hs:=of_decide_eq_true hts.2
         subst hs
         have hl:off+len≤d.length:=of_decide_eq_true (ht _ (by simp))
         have hyl:((d.drop off).take len).length=len:=by simp; omega
         rcases Ut hv with ⟨n,cap,hn,h2,h3,h4,h5,rfl⟩ | ⟨rfl,rfl,h3⟩
         · obtain ⟨xs,hg',hcr⟩:=hh.get hb hn
           rw [hbc] at hcr
           obtain ⟨c1,c2,c3⟩:=hcr
           refine ⟨_,cap,by rw [hyl],by rw [hyl]; omega, .inr ⟨n,off*bP ts,rfl,(hh.live id n hn).1,fun i e hi=> ?_⟩⟩
           have hil:i<len:=by
            have:=(List.getElem?_eq_some_iff.1 hi).1
            omega
           rw [List.getElem?_take_of_lt hil,List.getElem?_drop] at hi
           refine ⟨_,aT.yE hh.yE _ _ _ (c2 (off+i) e hi),?_⟩
           rw [← Nat.add_mul]
           exact nT hg'
         · simp only [List.take_zero,List.length_nil]
           rcases h3 with ⟨_,rfl⟩ | ⟨_,a,rfl⟩
           · exact ⟨_,0,rfl,⟨Nat.le_refl _,Nat.zero_le _⟩, .inl trivial⟩
           · exact ⟨_,0,rfl,⟨Nat.le_refl _,Nat.zero_le _⟩, .inl trivial⟩
       · cases he
     · cases he
   · cases he
 · rename_i id off len cap
   split at he
   · rename_i b hb
     split at he
     · rename_i l hbc
       split at he
       · rename_i a r hsp
         split at he
         · rename_i d hd
           cases he
           obtain ⟨n,hn,rfl⟩:=vsl hv
           obtain ⟨xs,hg',hcr⟩:=hh.get hb hn
           rw [hbc] at hcr
           obtain ⟨h1,h2,h3⟩:=dm hsp hcr
           obtain ⟨g1,g2,g3⟩:=rE hd h2
           have hlc:len≤cap∧cap≤maxLen:=by
            simp only [afL,Bool.and_eq_true] at hc
            exact ⟨Nat.le_of_ble_eq_true hc.1,Nat.le_of_ble_eq_true hc.2⟩
           refine ⟨_,cap,by rw [g1],by rw [g1]; exact hlc, .inr ⟨n,off,rfl,(hh.live id n hn).1,fun i e hi=> ?_⟩⟩
           refine ⟨_,aT.yE hh.yE _ _ _ (g3 i e hi),?_⟩
           rw [List.drop_drop]
           exact nT hg'
         · cases he
       · cases he
     · cases he
   · cases he
 · cases he

theorem aQ.yE (hh:bT ro σ h w) {v:V} {x:Value} (ho:okV false no1 v=true) (hv:aQ σ v x) (hs: ∃ t ds r,bn t ds=some (v,r)):aQ (oH w) v x:=by
 obtain ⟨t,ds,r,hs⟩:=hs
 cases t with
 | one t=>
   simp only [bn] at hs
   split at hs
   · cases hs
     exact ⟨hv.1,dV.yE hh ho hv.2⟩
   · cases hs
 | ag ts=>
   simp only [bn] at hs
   split at hs
   · cases hs
     obtain ⟨xs,e,hc⟩:=hv
     exact ⟨xs,e,aX.yE hh ho hc⟩
   · cases hs
 | fnc f=>
   simp only [bn] at hs
   cases hs
   exact hv
 | agl=>
   simp only [bn] at hs
   cases hs
   exact hv
 | ptr ts=>
   cases ds with
   | nil=> simp only [bn] at hs; cases hs
   | cons d0 dr=>
     cases d0 with
     | l ys=>
       cases ys with
       | nil=> simp only [bn] at hs; cases hs
       | cons d _=>
         simp only [bn] at hs
         cases hs
         exact ⟨hv.1,dV.yE hh ho hv.2⟩
     | _=> simp only [bn] at hs; cases hs

theorem Nl {t:Ty} {v:V} {d:List D} {x:Value} (hh:bT ro σ h w) (hd:YQ t v=some d) (hv:aQ σ v x):
 ∃ v',(∀ rest,bn t (d++rest)=some (v',rest))∧aQ (oH w) v' x:=by
 obtain ⟨v',h1,h2,h3⟩:=Ej hd
 exact ⟨v',h1,aQ.yE hh h2 (h3 _ _ hv) ⟨t,d++ [],[],h1 []⟩⟩

theorem Nr {ts:List LT} {v:V} {g:Nat→Option bQ} {c:List Bool} {y:List (List D)} (hgk: ∀ i b,g i=some b→hg h i=some b) (he:ko ts g v=some (c,y)):ko ts (hg h) v=some (c,y):=by
 rw [← he]
 refine BR fun id hid=> ?_
 cases hb:g id with
 | none=> rw [Et hid hb] at he; cases he
 | some b=> exact hgk id b hb

theorem abo (hh:bT ro σ h w) {t:LT} {e:D} {ys:List Value} (hd:eF σ.w σ.im t e ys):eF w (fun n=> n<w.heap.size) t e ys:=eF.yE hh.yE _ _ _ hd

def aiX (σ:Sg) (w:World) (D1:LT→List L→Option (List Bool × D × List L)):Prop:=
 ∀ t l c d r xs,D1 t l=some (c,d,r)→allT c→aX σ l xs→bD t d=some (wR t d)∧ ∃ ys zs,xs=ys++zs∧eF w (fun n=> n<w.heap.size) t d ys∧aX σ r zs

theorem oN {D1:LT→List L→Option (List Bool × D × List L)} (hD:aiX σ w D1): ∀ {ts:List LT} {l r:List L} {c:List Bool} {d:List D} {xs:List Value},II D1 ts l=some (c,d,r)→allT c→aX σ l xs→
 (∀ rest,bF ts (d++rest)=some (iX ts d,rest))∧ ∃ ys zs,xs=ys++zs∧aT w (fun n=> n<w.heap.size) ts d ys∧aX σ r zs
 | [],l,r,c,d,xs,h,_,hx=> by
   cases h
   exact ⟨fun _=> rfl,[],xs,rfl,by simp only [aT],hx⟩
 | t::ts,l,r,c,d,xs,h,ht,hx=> by
   simp only [II] at h
   split at h
   · rename_i c1 d1 r1 h1
     split at h
     · rename_i c2 d2 r2 h2
       cases h
       obtain ⟨t1,t2⟩:=eQ ht
       obtain ⟨e1,ys,zs,e2,e3,e4⟩:=hD _ _ _ _ _ _ h1 t1 hx
       obtain ⟨g1,ys',zs',g2,g3,g4⟩:=oN hD h2 t2 e4
       refine ⟨fun rest=> ?_,ys++ys',zs',by rw [e2,g2,List.append_assoc],?_,g4⟩
       · simp only [List.cons_append,bF,e1,g1,iX,List.headD_cons,List.tail_cons]
       · simp only [aT]
         exact ⟨ys,ys',rfl,e3,g3⟩
     · cases h
   · cases h

theorem BQ {D1:LT→List L→Option (List Bool × D × List L)} (hD:aiX σ w D1) {ts:List LT}: ∀ {n:Nat} {l:List L} {c:List Bool} {y:List (List D)} {xs:List Value},U1 D1 ts n l=some (c,y)→allT c→aX σ l xs→
 y.length=n∧ ∀ i e,y[i]? =some e→aT w (fun n=> n<w.heap.size) ts e ((xs.drop (i*bP ts)).take (bP ts))
 | 0,l,c,y,xs,h,_,_=> by cases h; exact ⟨rfl,fun i e hi=> by simp at hi⟩
 | n+1,l,c,y,xs,h,ht,hx=> by
   simp only [U1] at h
   split at h
   · rename_i c1 d1 r1 h1
     split at h
     · rename_i c2 d2 h2
       cases h
       obtain ⟨t1,t2⟩:=eQ ht
       obtain ⟨_,ys,zs,e2,e3,e4⟩:=oN hD h1 t1 hx
       obtain ⟨g1,g2⟩:=BQ hD h2 t2 e4
       have hl:=e3.len
       refine ⟨by simp [g1],fun i e hi=> ?_⟩
       subst e2
       cases i with
       | zero=>
         simp only [List.getElem?_cons_zero,Option.some.injEq] at hi
         subst hi
         rw [Nat.zero_mul,List.drop_zero,List.take_append_of_le_length (by omega),List.take_of_length_le (by omega)]
         exact e3
       | succ i=>
         simp only [List.getElem?_cons_succ] at hi
         have:=g2 i e hi
         rw [show (i+1)*bP ts=ys.length+i*bP ts by rw [Nat.add_mul,hl]; omega,List.drop_append,List.drop_of_length_le (by omega),List.nil_append,show ys.length+i*bP ts - ys.length=i*bP ts by omega]
         exact this
     · cases h
   · cases h

theorem Nk (hh:bT ro σ h w) {t:LT} {l r:List L} {d:D} {xs:List Value} (hd:Kr t l=some (d,r)) (hx:aX σ l xs):
 bD t d=some (wR t d)∧ ∃ ys zs,xs=ys++zs∧eF w (fun n=> n<w.heap.size) t d ys∧aX σ r zs:=by
 obtain ⟨x,ys,zs,h1,h2,h3,h4⟩:=xH hd hx
 have e:=Ns h1
 rw [e] at h1 h3
 exact ⟨h1,ys,zs,h2,abo hh (dV.iH.1 h3),h4⟩

theorem Sl {x:L} {ys:List Value} {ts:List LT} {g:Nat→Option bQ} {c:List Bool} {y:List (List D)} (he:ko ts g (.one x)=some (c,y)) (hl:dV σ x ys): ∃ v,ys= [v]∧oneCell v=true:=by
 cases x with
 | fG=> exact ⟨_,hl,rfl⟩
 | rd us z=>
   simp only [dV,eF] at hl
   obtain ⟨a,cap,e,_⟩:=hl
   exact ⟨_,e,rfl⟩
 | row id s off len mx=>
   rcases hl with ⟨b,cap,_,_,_,_,_,e⟩ | ⟨_,_,⟨_,e⟩ | ⟨_,a,e⟩⟩<;> exact ⟨_,e,rfl⟩
 | sl id off len cap=>
   obtain ⟨b,_,e⟩:=hl
   exact ⟨_,e,rfl⟩
 | _=> simp [ko] at he

theorem oM (hh:bT ro σ h w) {g:Nat→Option bQ} (hgk: ∀ i b,g i=some b→hg h i=some b): ∀ f,aiX σ w (Ei f g)
 | 0=> by
   intro t l c d r xs hd _ hx
   simp only [Ei] at hd
   split at hd
   · rename_i d' r' hd'
     cases hd
     exact Nk hh hd' hx
   · cases hd
 | f+1=> by
   intro t l c d r xs hd ht hx
   simp only [Ei] at hd
   split at hd
   · rename_i ts x r'
     obtain ⟨ys,zs,e,hl,hz⟩:=hx
     split at hd
     · rename_i c' y hcap hels
       cases hd
       obtain ⟨v,rfl,ho⟩:=Sl hels hl
       exact ⟨rfl,[v],zs,e,U6 hcap (Nr hgk hels) ht ⟨ho,hl⟩ hh,hz⟩
     · split at hd
       · rename_i id off len cap _
         split at hd
         · rename_i b hcap hb
           split at hd
           · rename_i q hq
             split at hd
             · rename_i a z hsp
               split at hd
               · rename_i c' y hdn
                 cases hd
                 obtain ⟨n,hn,rfl⟩:=hl
                 obtain ⟨xs',hgx,hcr⟩:=hh.get (hgk id b hb) hn
                 rw [hq] at hcr
                 obtain ⟨h1,h2,h3⟩:=dm hsp hcr
                 obtain ⟨g1,g2⟩:=BQ (oM hh hgk f) hdn ht h2
                 simp only [Bool.and_eq_true] at hcap
                 refine ⟨rfl,[_],zs,e,?_,hz⟩
                 simp only [eF,D.wR]
                 refine ⟨_,cap,by rw [g1],by rw [g1]; exact ⟨Nat.le_of_ble_eq_true hcap.1,Nat.le_of_ble_eq_true hcap.2⟩, .inr ⟨n,off,rfl,(hh.live id n hn).1,fun i e hi=> ?_⟩⟩
                 refine ⟨_,g2 i e hi,?_⟩
                 rw [List.drop_drop]
                 exact nT hgx
               · cases hd
             · cases hd
           · cases hd
         · cases hd
       · cases hd
   · split at hd
     · rename_i d' r' hd'
       cases hd
       exact Nk hh hd' hx
     · cases hd

theorem Bq {g:Nat→Option bQ}: ∀ {f:Nat} {ids:List Nat} {i:Nat} {b:bQ},(i,b)∈reach g f ids→g i=some b
 | 0,_,_,_,h=> by simp [reach] at h
 | f+1,ids,i,b,h=> by
   simp only [reach,List.mem_flatMap] at h
   obtain ⟨j,_,hj⟩:=h
   split at hj
   · rename_i c hc
     rcases List.mem_cons.1 hj with e | e
     · cases e; exact hc
     · exact Bq e
   · simp at hj

theorem A7: ∀ {o:List (Nat × bQ)} {i:Nat} {b:bQ},zo o i=some b→(i,b)∈o
 | [],_,_,h=> by cases h
 | (j,c)::l,i,b,h=> by
   simp only [zo] at h
   split at h
   · rename_i he
     cases h
     rw [Nat.eq_of_beq_eq_true he]
     exact List.mem_cons_self
   · exact List.mem_cons_of_mem _ (A7 h)

theorem xD {g:Nat→Option bQ} {v v':V} {o:List (Nat × bQ)} (ha:oJ g v=some (v',o)):v'=v∧ ∀ i b,zo o i=some b→g i=some b:=by
 unfold oJ at ha
 split at ha
 · cases ha
   exact ⟨rfl,fun i b hb=> Bq (A7 hb)⟩
 · rename_i id _
   split at ha
   · rename_i b0 hb0
     cases ha
     refine ⟨rfl,fun i b hb=> ?_⟩
     rcases List.mem_cons.1 (A7 hb) with e | e
     · cases e; exact hb0
     · exact Bq e
   · cases ha

theorem ZO {w:World} {ts:List LT} {d:List D} {ys:List Value} (hd:aT w (fun n=> n<w.heap.size) ts d ys):aX (oH w) (iX ts d) ys:=(aX.iH (σ:=oH w)).2 hd

theorem RD {t:Ty} {v:V} {o:List (Nat × bQ)} {c:List Bool} {ds:List D} {x:Value} (hh:bT ro σ h w) (ha:oJ (hg h) v=some (v,o)) (hv:aQ σ v x) (hd:ajb t v o=some (c,ds)) (ht:allT c):
 ∃ v',(∀ rest,bn t (ds++rest)=some (v',rest))∧aQ (oH w) v' x:=by
 obtain ⟨_,hlk⟩:=xD ha
 unfold ajb at hd
 split at hd
 · rename_i ts
   split at hd
   · rename_i c' y hcap he
     cases hd
     have he:=Nr hlk he
     refine ⟨.one (.rd ts y),fun rest=> by simp [bn,bF,bD],?_,?_⟩
     · obtain ⟨a,n,cp,rfl⟩:=BS he hv
       rfl
     · exact U6 hcap he ht hv hh
   · split at hd
     · rename_i l
       split at hd
       · rename_i c' d hdl
         cases hd
         obtain ⟨ho,hl⟩:=hv
         obtain ⟨e1,ys,zs,e2,e3,e4⟩:=oM hh hlk 4 _ _ _ _ _ [x] hdl ht ⟨[x],[],rfl,hl,rfl⟩
         have e4:zs= []:=e4
         subst e4
         rw [List.append_nil] at e2
         subst e2
         cases d with
         | l y=>
           refine ⟨.one (.rd ts y),fun rest=> by simp [bn,bF,bD],ho,?_⟩
           exact e3
         | _=> simp [bD] at e1
       · cases hd
     · cases hd
 · rename_i ts
   split at hd
   · rename_i id _
     split at hd
     · rename_i b hb
       split at hd
       · rename_i l hbc
         split at hd
         · rename_i d hdp
           cases hd
           refine ⟨.one (.rp ts d 0),fun rest=> rfl,?_⟩
           obtain ⟨n,hn,rfl⟩:=MK hv
           obtain ⟨xs,hgx,hcr⟩:=hh.get (hlk id b hb) hn
           rw [hbc] at hcr
           have hdr:=ql hdp hcr
           refine ⟨rfl,n,0,xs,rfl,(hh.live id n hn).1,aT.yE hh.yE _ _ _ hdr,?_⟩
           have:=nT (o:=0) (s:=xs.length) hgx
           rw [List.drop_zero,List.take_length] at this
           exact this
         · split at hd
           · rename_i c' d hdw
             cases hd
             refine ⟨.one (.rp ts d 0),fun rest=> rfl,?_⟩
             obtain ⟨n,hn,rfl⟩:=MK hv
             obtain ⟨xs,hgx,hcr⟩:=hh.get (hlk id b hb) hn
             rw [hbc] at hcr
             obtain ⟨_,ys,zs,e2,e3,e4⟩:=oN (oM hh hlk 4) hdw ht hcr
             have e4:zs= []:=e4
             subst e4
             rw [List.append_nil] at e2
             subst e2
             refine ⟨rfl,n,0,xs,rfl,(hh.live id n hn).1,e3,?_⟩
             have:=nT (o:=0) (s:=xs.length) hgx
             rw [List.drop_zero,List.take_length] at this
             exact this
           · cases hd
       · cases hd
     · cases hd
   · cases hd
 · rename_i ts
   split at hd
   · rename_i l _
     split at hd
     · rename_i d hdp
       cases hd
       exact Nl hh (t:= .ag ts) (v:= .ag (.ps l)) hdp hv
     · split at hd
       · rename_i c' d hdw
         cases hd
         obtain ⟨xs,rfl,hp⟩:=hv
         obtain ⟨e1,ys,zs,e2,e3,e4⟩:=oN (oM hh hlk 4) hdw ht hp
         have e4:zs= []:=e4
         subst e4
         rw [List.append_nil] at e2
         subst e2
         exact ⟨.ag (.ps (iX ts ds)),fun rest=> by simp only [bn,e1],xs,rfl,ZO e3⟩
       · cases hd
   · cases hd
 · split at hd
   · rename_i d hdv
     cases hd
     exact Nl hh hdv hv
   · cases hd

theorem rD (hh:bT ro σ h w): ∀ {ts:List Ty} {l:List V} {args:List (V × List (Nat × bQ))} {c:List Bool} {ds:List D} {vals:List Value},fM (hg h) l=some args→eD (aQ σ) l vals→RB ts args=some (c,ds)→allT c→
 ∃ vs,bq ts ds=some vs∧eD (aQ (oH w)) vs vals
 | [],[],args,c,ds,_,ha, .nil,h,_=> by cases ha; cases h; exact ⟨[],rfl, .nil⟩
 | [],v::l,args,c,ds,_,ha,_,h,_=> by
   simp only [fM] at ha
   split at ha
   · cases ha; simp [RB] at h
   · cases ha
 | t::ts,[],args,c,ds,_,ha,_,h,_=> by cases ha; simp [RB] at h
 | t::ts,v::l,args,c,ds,_,ha, .cons hv hl,h,ht=> by
   simp only [fM] at ha
   split at ha
   · rename_i a r ha1 ha2
     cases ha
     obtain ⟨v1,o⟩:=a
     have hv1:v1=v:=(xD ha1).1
     subst hv1
     simp only [RB] at h
     split at h
     · rename_i c1 d1 c2 d2 e1 e2
       cases h
       obtain ⟨t1,t2⟩:=eQ ht
       obtain ⟨v',g1,g2⟩:=RD hh ha1 hv e1 t1
       obtain ⟨vs,g3,g4⟩:=rD hh ha2 hl e2 t2
       exact ⟨v'::vs,by simp only [bq,g1,g3], .cons g2 g4⟩
     · cases h
   · cases ha
end

def Cn (ts:List Ty) (F:Nat→List D→Option (List Bool × V × List bQ)):aj:=fun base args=>
 match RB ts args with
 | some (c,ds)=> match F base ds with
   | some (chk,v,bs)=> some (c++chk,v,bs)
   | none=> none
 | none=> none

def spec (ts:List Ty) (F:List D→Option (List Bool × V)):aj:=fun _ args=>
 match RB ts args with
 | some (c,ds)=> match F ds with
   | some (chk,v)=> some (c++chk,v,[])
   | none=> none
 | none=> none

mutual
def Bu:LT→D→Prop
 | .pk _ b c,d=> d.toN<2^(b*c)
 | .int k,d=> jm k d.xy=true
 | .sl ts,d=> d.wR.length≤maxLen∧ ∀ (i:Nat) (e:List D),d.wR[i]? =some e→jh ts e
 | _,_=> True
def jh:List LT→List D→Prop
 | [],_=> True
 | t::ts,e=> Bu t (e.headD (.n 0))∧jh ts e.tail
end

mutual
theorem eF.x8 {W:World} {im:Nat→Prop}: ∀ (t:LT) (d:D) (xs:List Value),eF W im t d xs→Bu t d
 | .pk ..,_,_,h=> by simp only [eF] at h; simp only [Bu]; exact h.2.1
 | .int _,_,_,h=> by simp only [eF] at h; simp only [Bu]; exact h.2
 | .bool,_,_,_=> by simp only [Bu]
 | .str,_,_,_=> by simp only [Bu]
 | .sl ts,d,xs,h=> by
   simp only [eF] at h
   simp only [Bu]
   obtain ⟨a,cap,_,⟨l1,l2⟩,h2⟩:=h
   refine ⟨Nat.le_trans l1 l2,?_⟩
   intro i e hi
   rcases h2 with h2 | ⟨b,o,_,_,h3⟩
   · rw [h2] at hi; simp at hi
   · obtain ⟨ys,h4,_⟩:=h3 i e hi
     exact aT.x8 ts e ys h4
theorem aT.x8 {W:World} {im:Nat→Prop}: ∀ (t:List LT) (d:List D) (xs:List Value),aT W im t d xs→jh t d
 | [],_,_,_=> by simp only [jh]
 | t::ts,d,xs,h=> by
   simp only [aT] at h
   simp only [jh]
   obtain ⟨ys,zs,_,h1,h2⟩:=h
   exact ⟨eF.x8 t _ ys h1,aT.x8 ts _ zs h2⟩
end

def agX:L→Prop
 | .int k n=> jm k n=true
 | .pk _ b c n=> n<2^(b*c)
 | .rd ts x=> x.length≤maxLen∧ ∀ (i:Nat) (e:List D),x[i]? =some e→jh ts e
 | _=> True

def akd:List L→Prop
 | []=> True
 | l::ls=> agX l∧akd ls

def Ti:V→Prop
 | .u (.one l)=> agX l
 | .u (.ag (.ps l))=> akd l
 | _=> True

def Pj:List V→Prop
 | []=> True
 | v::vs=> Ti v∧Pj vs

theorem dV.x8 {σ:Sg} {l:L} {xs:List Value} (h:dV σ l xs):agX l:=by
 cases l with
 | int k n=> exact h.2
 | pk k b c n=> exact h.2.1
 | rd ts x=>
   have:=eF.x8 _ _ _ h
   simp only [Bu,D.wR] at this
   exact this
 | _=> trivial

theorem aX.x8 {σ:Sg}: ∀ {l:List L} {xs:List Value},aX σ l xs→akd l
 | [],_,_=> trivial
 | _::_,_,⟨_,_,_,h1,h2⟩=> ⟨h1.x8,aX.x8 h2⟩

theorem aQ.x8 {σ:Sg} {v:V} {x:Value} (h:aQ σ v x):Ti v:=by
 cases v with
 | u y=> cases y with
   | one l=> exact h.2.x8
   | ag c=> cases c with
     | ps l=> obtain ⟨xs,_,hc⟩:=h; exact aX.x8 hc
     | _=> trivial
 | _=> trivial

theorem yP {σ:Sg}: ∀ {vs:List V} {vals:List Value},eD (aQ σ) vs vals→Pj vs
 | [],_,_=> trivial
 | _::_,_, .cons h hl=> ⟨h.x8,yP hl⟩

theorem AR {cx : Cx} {f : FuncId} {fn : Func} {c : Code} (hf : cx.P.funcs[f]? = some fn) (hb : fn.body = some c) (hname : (fn.name == "runtime.NumGoroutine") = false)
 {ts:List Ty} {F:Nat→List D→Option (List Bool × V × List bQ)}
 (h: ∀ base ds chk v bs vs,F base ds=some (chk,v,bs)→allT chk→bq ts ds=some vs→Pj vs→bM cx 0 c ⟨t0 fn vs,[]⟩ (Post cx fn base v bs)):bg cx.P f (Cn ts F):=by
 intro base args chk v bs hsp ht ro σ hp w l vals hh ha hl _
 unfold Cn at hsp
 split at hsp
 · rename_i c0 ds hds
   split at hsp
   · rename_i chk' v' bs' hF
     cases hsp
     obtain ⟨t1,t2⟩:=eQ ht
     obtain ⟨vs,h1,h2⟩:=rD hh ha hl hds t1
     exact Vq (cx':=cx) hf hb hname h2 rfl (h base ds chk' v bs vs hF t2 h1 (yP h2))
   · cases hsp
 · cases hsp

theorem az {cx : Cx} {f : FuncId} {fn : Func} {c : Code} (hf : cx.P.funcs[f]? = some fn) (hb : fn.body = some c) (hname : (fn.name == "runtime.NumGoroutine") = false) (_ : cx.ro = 0)
 {ts:List Ty} {F:List D→Option (List Bool × V)}
 (h: ∀ ds chk v vs,F ds=some (chk,v)→allT chk→bq ts ds=some vs→Pj vs→ ∀ base,bM cx 0 c ⟨t0 fn vs,[]⟩ (Post cx fn base v [])):bg cx.P f (spec ts F):=by
 intro base args chk v bs hsp ht ro σ hp w l vals hh ha hl _
 unfold spec at hsp
 split at hsp
 · rename_i c0 ds hds
   split at hsp
   · rename_i chk' v' hF
     cases hsp
     obtain ⟨t1,t2⟩:=eQ ht
     obtain ⟨vs,h1,h2⟩:=rD hh ha hl hds t1
     exact Vq (cx':=cx) hf hb hname h2 rfl (h ds chk' v vs hF t2 h1 (yP h2) base)
   · cases hsp
 · cases hsp

def aK:List (FuncId × aj)→FuncId→Option aj
 | [],_=> none
 | (g,s)::r,f=> match Nat.beq f g with
   | true=> some s
   | false=> aK r f

theorem aD.nil {P:Program}:aD P (aK []):=fun _ _ h=> by cases h

theorem aD.cons {P:Program} {f:FuncId} {s:aj} {l:List (FuncId × aj)} (h:bg P f s) (hl:aD P (aK l)):aD P (aK ((f,s)::l)):=by
 intro g sp hg
 simp only [aK] at hg
 split at hg
 · rename_i he
   cases hg
   have:g=f:=Nat.eq_of_beq_eq_true he
   subst this
   exact h
 · exact hl g sp hg

def gY:List (FuncId × Func)→FuncId→Option Func
 | [],_=> none
 | (g,s)::r,f=> match Nat.beq f g with
   | true=> some s
   | false=> gY r f

theorem bf.nil {P:Program}:bf P (gY []):=fun _ _ h=> by cases h

theorem bf.cons {P : Program} {f : FuncId} {fn : Func} {l : List (FuncId × Func)} (h : P.funcs[f]? = some fn) (hn : (fn.name == "runtime.NumGoroutine") = false) (hl : bf P (gY l)) : bf P (gY ((f, fn) :: l)) := by
 intro g sp hg
 simp only [gY] at hg
 split at hg
 · rename_i he
   cases hg
   have:g=f:=Nat.eq_of_beq_eq_true he
   subst this
   exact ⟨h,hn⟩
 · exact hl g sp hg

def zm:List (FuncId × List V × Hp × V × Hp)→FuncId→Option (List V × Hp × V × Hp)
 | [],_=> none
 | (g,r)::l,f=> match Nat.beq f g with
   | true=> some r
   | false=> zm l f

theorem dO.nil {P:Program} {ro:Nat}:dO P ro (zm []):=fun _ _ _ _ _ h=> by cases h
theorem dO.cons {P:Program} {ro:Nat} {f:FuncId} {as:List V} {h h':Hp} {v:V} {l:List (FuncId × List V × Hp × V × Hp)} (hc:mK P ro f as h v h') (hl:dO P ro (zm l)):dO P ro (zm ((f,as,h,v,h')::l)):=by
 intro g as' h1 v1 h1' hg
 simp only [zm] at hg
 split at hg
 · rename_i he
   cases hg
   rw [Nat.eq_of_beq_eq_true he]
   exact hc
 · exact hl g as' h1 v1 h1' hg

theorem IV {P : Program} {f : FuncId} {fn : Func} {e : Array Value → Sem Value} (hf : P.funcs[f]? = some fn) (hname : (fn.name == "runtime.NumGoroutine") = false)
 (hb:fn.body.isNone=true) (hn:Extern.findNext fn=none) (he:Extern.find fn=some e) {ts:List Ty} {F:List D→Option (List Bool × V)}
 (h: ∀ ds chk v vs,F ds=some (chk,v)→allT chk→bq ts ds=some vs→Pj vs→ ∀ (σ:Sg) (w:World) (vals:List Value),eD (aQ σ) vs vals→ ∃ x,(e vals.toArray).run P w= .ok x w∧abD v=true∧aQ σ v x):
 bg P f (spec ts F):=by
 intro base args chk v bs hsp ht ro σ hp w l vals hh ha hl _
 unfold spec at hsp
 split at hsp
 · rename_i c0 ds hds
   split at hsp
   · rename_i chk' v' hF
     cases hsp
     obtain ⟨t1,t2⟩:=eQ ht
     obtain ⟨vs,h1,h2⟩:=rD hh ha hl hds t1
     obtain ⟨x,hx,hfl,hv⟩:=h ds chk' _ vs hF t2 h1 (yP h2) (oH w) w vals h2
     unfold iD
     rw [run_callFunc_extern hf hname hb hn he,hx]
     exact ⟨σ,Below.refl _ _,hv.flat hfl,rfl⟩
   · cases hsp
 · cases hsp

theorem ai {l:List Bool} {o:Out} (h:allT l):aS l o=o:=by
 induction l with
 | nil=> rfl
 | cons b l ih=>
   obtain ⟨h1,h2⟩:=fT h
   simp only [aS,h1,cond_true]
   exact ih h2

def af (fn:Func):Code:=fn.body.getD .skip
def it (c:Code) (i:Nat):Code:=(items c).getD i .skip
def inB:Code→Code
 | .block _ b=> b
 | c=> c
def inL:Code→Code
 | .loop b=> b
 | c=> c
def aY (c:Code) (i:Nat):Code:=inL (inB (it c i))

theorem ae.loop {cx:Cx} {n0 i id:Nat} {c:Code} {st:St} {R:Ex→St→Prop} (he:(items c).drop i= .block id (.loop (aY c i))::(items c).drop (i+1))
 (I:Nat→St→Prop) (m:Nat) (h0:I m st)
 (hround: ∀ m s,I m s→ae cx n0 (items (aY c i)) s (andThen (fun s'=> ∃ m',m'<m∧I m' s') (IX id (andThen (fun s=> ae cx n0 ((items c).drop (i+1)) s R) R)))):
 ae cx n0 ((items c).drop i) st R:=by
 rw [he]
 refine bM.block ?_
 refine bM.loop I (fun m s hI=> bM.items _ _ _ (hround m s hI)) m st h0

theorem ae.all {cx:Cx} (hk:Ok cx) {n0 n:Nat} {kt kh:List Nat} {m:Nat} {l:List Code} {st st':St} {e:Ex} {R:Ex→St→Prop}
 (h:evL cx n l st (iF n0 kt kh m)= .done e st') (hR:R e st'):ae cx n0 l st R:=by
 refine gV hk (out:= .done e st') trivial h ?_
 intro e2 s hκ w0 W σ0 σ a w q hn hs hr hq
 unfold iF at hκ
 split at hκ
 · rename_i s' hf
   cases hκ
   obtain ⟨σ',h1,h2⟩:=gL.forget hf hn hs hr
   exact hq st' σ' hR h1 h2
 · cases hκ

theorem iL:allT []:=fun _ h=> by simp at h
theorem aF {b:Bool} {l:List Bool} (h:b=true) (hl:allT l):allT (b::l):=by
 intro c hc
 rcases List.mem_cons.1 hc with e | e
 · rw [e]; exact h
 · exact hl c e
theorem aU {b:Bool} (h:b=true):allT [b]:=aF h iL
end Vx

/-
  An executor of Go code on values of its own: the same run, in which a truth that was asked for is known from then on.
-/
namespace Vx
open Go

def known (st:St) (d:Tmp) (b:Bool):St:=⟨st.t.set d (.bool b),st.h⟩

theorem N8 {st:St} {d:Tmp} {b:Bool} (h:gl st.t d= .bool b):known st d b=st:=by
 unfold known
 cases st with
 | mk t hp=>
   simp only [St.mk.injEq,and_true]
   simp only [gl] at h
   have hd:d<t.length:=by
    apply Classical.byContradiction
    intro hn
    rw [List.getD_eq_getElem?_getD,List.getElem?_eq_none (Nat.le_of_not_lt hn)] at h
    cases h
   rw [List.getD_eq_getElem?_getD,List.getElem?_eq_getElem hd] at h
   rw [← h]
   exact List.set_getElem_self hd

inductive Gd where
 | bad
 | run
 | skip
 | ask (d:Tmp) (b want:Bool)

def xN (all:List Oper) (o:Oper) (t:List V):Gd:=
 match o.guard with
 | none=> .run
 | some (j,want)=> match all[j]? with
   | some q=> match q.dst with
     | some d=> match gl t d with
       | .u (.one (.bool b))=> .ask d b want
       | .dX _=> .skip
       | _=> .bad
     | none=> .bad
   | none=> .bad

noncomputable def jP (cx:Cx) (I:IL) (all:List Oper):List Oper→Nat→St→List (List Nat)→(List (List Nat)→St→Out)→Out
 | [],_,st,tr,κ=> κ tr st
 | o::r,id,st,tr,κ=>
   match xN all o st.t with
   | .run=> xx cx I o id st (fun s=> jP cx I all r (id+slots cx.P o.op) s (tr++ [mJ cx st o]) κ)
   | .skip=> jP cx I all r (id+slots cx.P o.op) ⟨bR st.t o.dst bW,st.h⟩ (tr++ [mJ cx st o]) κ
   | .ask d b want=> bif b then
    (match want with
    | true=> xx cx I o id (known st d true) (fun s=> jP cx I all r (id+slots cx.P o.op) s (tr++ [mJ cx st o]) κ)
    | false=> jP cx I all r (id+slots cx.P o.op) ⟨bR (known st d true).t o.dst bW,st.h⟩ (tr++ [mJ cx st o]) κ)
    else
     (match want with
     | false=> xx cx I o id (known st d false) (fun s=> jP cx I all r (id+slots cx.P o.op) s (tr++ [mJ cx st o]) κ)
     | true=> jP cx I all r (id+slots cx.P o.op) ⟨bR (known st d false).t o.dst bW,st.h⟩ (tr++ [mJ cx st o]) κ)
   | .bad=> .fail 3

theorem EB (cx:Cx) (I:IL) (all:List Oper): ∀ (l:List Oper) (id:Nat) (st:St) (tr:List (List Nat)) (κ:List (List Nat)→St→Out),jP cx I all l id st tr κ=pM cx I all l id st tr κ
 | [],_,_,_,_=> rfl
 | o::r,id,st,tr,κ=> by
   have ih:jP cx I all r=pM cx I all r:=by funext id st tr κ; exact EB cx I all r id st tr κ
   unfold jP pM
   rw [ih]
   cases hgd:o.guard with
   | none=> simp only [xN,bO,hgd,cond_true]
   | some jw=>
     obtain ⟨j,want⟩:=jw
     cases hj:all[j]? with
     | none=> simp only [xN,bO,hgd,hj]
     | some q=>
       cases hq:q.dst with
       | none=> simp only [xN,bO,hgd,hj,hq]
       | some d=>
         simp only [xN,bO,hgd,hj,hq]
         cases hv:gl st.t d with
         | aC=> rfl
         | dX xs=> rfl
         | u x=>
           cases x with
           | ag c=> rfl
           | one l=>
             cases l with
             | bool b=> cases b<;> cases want<;> (simp only [N8 hv]; rfl)
             | _=> rfl

noncomputable def Y5 {α:Type} (d:α):List α→Nat→α:=fun l=> List.rec (fun _=> d) (fun h _ ih n=> Nat.rec h (fun m _=> ih m) n) l
noncomputable def Tw {α:Type}:List α→Nat→α→List α:=fun l=> List.rec (fun _ _=> []) (fun h t ih n v=> Nat.rec (v::t) (fun m _=> h::ih m v) n) l
theorem Da {α:Type} (d:α): ∀ (l:List α) (n:Nat),Y5 d l n=l.getD n d
 | [],n=> rfl
 | h::t,0=> rfl
 | h::t,n+1=> by
   show Y5 d t n=_
   rw [Da d t n]; rfl
theorem wo {α:Type}: ∀ (l:List α) (n:Nat) (v:α),Tw l n v=l.set n v
 | [],n,v=> rfl
 | h::t,0,v=> rfl
 | h::t,n+1,v=> by
   show h::Tw t n v=_
   rw [wo t n v]; rfl
noncomputable def glF (t:List V) (d:Nat):V:=Y5 bW t d
noncomputable def hgF (h:Hp) (d:Nat):Option bQ:=Y5 none h d
theorem RY:glF=gl:=by funext t d; exact Da _ _ _
theorem R4:hgF=hg:=by funext t d; exact Da _ _ _
noncomputable def AP (t:List V):Operand→V
 | .tmp i=> glF t i
 | .const v=> VV v
 | .func f=> .one (.fn f)
 | .global _=> .aC
theorem KM:AP=fo:=by
 funext t o
 cases o<;> simp only [AP,fo,RY]
noncomputable def sU (t:List V) (d:Option Tmp) (v:V):List V:=
 match d with
 | some d=> Tw t d v
 | none=> t
theorem FV:sU=bR:=by
 funext t d v
 cases d
 · rfl
 · exact wo _ _ _
noncomputable def aib (h:Hp) (id:Nat):List bQ→Hp
 | []=> h
 | b::_=> Tw h id (some b)
theorem ac6:aib=O4:=by
 funext h i l
 cases l
 · rfl
 · exact wo _ _ _
noncomputable def Wq (h:Hp):List (Nat × bQ)→Hp
 | []=> h
 | (i,b)::us=> Wq (Tw h i (some b)) us
theorem ac8:Wq=dE:=by
 funext h l
 induction l generalizing h with
 | nil=> rfl
 | cons x us ih=>
   obtain ⟨i,b⟩:=x
   rw [Wq,dE,ih,wo]
noncomputable def uA (st:St) (d:Tmp) (b:Bool):St:=⟨Tw st.t d (.bool b),st.h⟩
theorem IZ:uA=known:=by
 funext st d b
 unfold uA known
 rw [wo]
noncomputable def adw (cx:Cx) (o:Oper) (id:Nat) (st:St) (κ:St→Out):Out:=
 match oG cx o.op (AP st.t) (hgF st.h) id with
 | .st (.val chk v)=> aS chk (κ ⟨sU st.t o.dst v,st.h⟩)
 | .st (.br chk b v w)=> aS chk (bif b then κ ⟨sU st.t o.dst v,st.h⟩ else κ ⟨sU st.t o.dst w,st.h⟩)
 | .wr chk i b=> aS chk (κ ⟨sU st.t o.dst bW,Tw st.h i (some b)⟩)
 | .nw chk v bs=> aS chk (κ ⟨sU st.t o.dst v,aib st.h id bs⟩)
 | .mv chk v us=> aS chk (κ ⟨sU st.t o.dst v,Wq st.h us⟩)
 | _=> .fail 2
theorem adx:adw=Tk:=by
 funext cx o id st κ
 unfold adw Tk
 rw [KM,R4,FV,ac6,ac8]
 simp only [wo]
 rfl
noncomputable def Gy (cx:Cx) (I:IL) (o:Oper) (id:Nat) (st:St) (κ:St→Out):Out:=
 match fu cx (AP st.t) o.op with
 | some (f,as)=> match cx.ex f with
   | false=> I f as st.h fun v h=> match kr st.h h with
     | true=> κ ⟨sU st.t o.dst v,h⟩
     | false=> .fail 30
   | true=> match iQ cx.ro st.h (bz (hgF st.h) as) as with
     | true=> I f as (gZ (bz (hgF st.h) as) 0 st.h) fun v h=> match kr (gZ (bz (hgF st.h) as) 0 st.h) h with
       | true=> κ ⟨sU st.t o.dst v,fK (bz (hgF st.h) as) 0 st.h h⟩
       | false=> .fail 30
     | false=> .fail 35
 | none=> adw cx o id st κ
theorem Z9:Gy=xx:=by
 funext cx I o id st κ
 unfold Gy xx
 rw [KM,FV,adx,R4]
 rfl
noncomputable def RZ (all:List Oper) (o:Oper) (t:List V):Gd:=
 match o.guard with
 | none=> .run
 | some (j,want)=> match Y5 none (all.map some) j with
   | some q=> match q.dst with
     | some d=> match glF t d with
       | .u (.one (.bool b))=> .ask d b want
       | .dX _=> .skip
       | _=> .bad
     | none=> .bad
   | none=> .bad
theorem Y6:RZ=xN:=by
 funext all o t
 unfold RZ xN
 have h: ∀ j,Y5 none (all.map some) j=all[j]? :=by
  intro j
  rw [Da,List.getD_eq_getElem?_getD,List.getElem?_map]
  cases all[j]? <;> rfl
 rw [RY]
 simp only [h]
noncomputable def Cu (cx:Cx) (st:St) (o:Oper):List Nat:=match fu cx (AP st.t) o.op with
 | some (f,as)=> bif cx.ex f then mV::(bz (hgF st.h) as++(looks cx.P o.op).filterMap fun x=> fE (AP st.t x)) else nX::(looks cx.P o.op).filterMap fun x=> fE (AP st.t x)
 | none=> bif eU cx.P (AP st.t) (hgF st.h) o.op then
  (bif (eB cx.P (AP st.t) (hgF st.h) o.op).all (Ob (hgF st.h)) then zq::(eB cx.P (AP st.t) (hgF st.h) o.op++(looks cx.P o.op).filterMap fun x=> fE (AP st.t x)) else nX::(looks cx.P o.op).filterMap fun x=> fE (AP st.t x))
  else (looks cx.P o.op).filterMap fun x=> fE (AP st.t x)
theorem afd:Cu=mJ:=by
 funext cx st o
 unfold Cu mJ yB
 rw [KM,R4]
 rfl
noncomputable def lX (cx:Cx) (I:IL) (all:List Oper):List Oper→Nat→St→List (List Nat)→(List (List Nat)→St→Out)→Out
 | [],_,st,tr,κ=> κ tr st
 | o::r,id,st,tr,κ=>
   match RZ all o st.t with
   | .run=> Gy cx I o id st (fun s=> lX cx I all r (id+slots cx.P o.op) s (tr++ [Cu cx st o]) κ)
   | .skip=> lX cx I all r (id+slots cx.P o.op) ⟨sU st.t o.dst bW,st.h⟩ (tr++ [Cu cx st o]) κ
   | .ask d b want=> bif b then
    (match want with
    | true=> Gy cx I o id (uA st d true) (fun s=> lX cx I all r (id+slots cx.P o.op) s (tr++ [Cu cx st o]) κ)
    | false=> lX cx I all r (id+slots cx.P o.op) ⟨sU (uA st d true).t o.dst bW,st.h⟩ (tr++ [Cu cx st o]) κ)
    else
     (match want with
     | false=> Gy cx I o id (uA st d false) (fun s=> lX cx I all r (id+slots cx.P o.op) s (tr++ [Cu cx st o]) κ)
     | true=> lX cx I all r (id+slots cx.P o.op) ⟨sU (uA st d false).t o.dst bW,st.h⟩ (tr++ [Cu cx st o]) κ)
   | .bad=> .fail 3
theorem EA (cx:Cx) (I:IL) (all:List Oper): ∀ (l:List Oper) (id:Nat) (st:St) (tr:List (List Nat)) (κ:List (List Nat)→St→Out),lX cx I all l id st tr κ=jP cx I all l id st tr κ
 | [],_,_,_,_=> rfl
 | o::r,id,st,tr,κ=> by
   have ih:lX cx I all r=jP cx I all r:=by funext id st tr κ; exact EA cx I all r id st tr κ
   unfold lX jP
   rw [ih,Y6,Z9,afd,FV,IZ]

def CS:Nat→Nat→(Nat→Bool)→Bool
 | 0,m,_=> Nat.beq m 0
 | n+1,m,f=> bif Nat.beq m 0 then true else bif f (Nat.log2 m) then CS n (Nat.sub m (Nat.pow 2 (Nat.log2 m))) f else false

theorem D8 {f:Nat→Bool}: ∀ {n m:Nat},CS n m f=true→ ∀ j,m.testBit j=true→f j=true
 | 0,m,h,j,hj=> by
   have:m=0:=Nat.eq_of_beq_eq_true h
   subst this
   simp at hj
 | n+1,m,h,j,hj=> by
   unfold CS at h
   cases hm:Nat.beq m 0 with
   | true=>
     have:m=0:=Nat.eq_of_beq_eq_true hm
     subst this
     simp at hj
   | false=>
     have hm0:m≠0:=by
      intro e
      subst e
      cases hm
     rw [hm,cond_false] at h
     cases hf:f m.log2 with
     | false=> rw [hf,cond_false] at h; cases h
     | true=>
       rw [hf,cond_true] at h
       have hlo:2^m.log2≤m:=Nat.log2_self_le hm0
       have hhi:m<2^(m.log2+1):=Nat.lt_log2_self
       have ih:=D8 h j
       have e:Nat.sub m (Nat.pow 2 m.log2)=m - 2^m.log2:=rfl
       rw [e] at ih
       generalize m.log2=k at*
       obtain ⟨r,hr⟩: ∃ r,m=2^k+r:=⟨m - 2^k,by omega⟩
       rcases Nat.lt_trichotomy j k with hjk | hjk | hjk
       · refine ih ?_
         rw [hr,Nat.add_sub_cancel_left]
         rw [hr,Nat.testBit_two_pow_add_gt hjk] at hj
         exact hj
       · rw [hjk]; exact hf
       · have:m<2^j:=Nat.lt_of_lt_of_le hhi (Nat.pow_le_pow_right (by decide) hjk)
         rw [Nat.testBit_lt_two_pow this] at hj
         cases hj

def UZ (P:Program) (base:Nat) (tr:List (List Nat)) (ops:List Oper):Bool:=
 ops.zipIdx.all fun x=>
  bif x.1.after.toList.all (fun e=> match ja e with
   | some j=> Nat.blt j x.2
   | none=> true) then
  CS x.2 (Nat.sub (Nat.pow 2 x.2) (Nat.succ (Nat.mod ((xE ops []).getD x.2 0) (Nat.pow 2 x.2)))) fun j=> match ops[j]? with
   | some q=> apart P (tr.getD x.2 []) (tr.getD j []) ops x.1 q && (Nat.beq (slots P q.op) 0 || far (tr.getD x.2 []) [(ZC P base ops).getD j 0]) && acC base (tr.getD x.2 []) (tr.getD j [])
   | none=> true
  else false

theorem aba {P:Program} {base:Nat} {tr:List (List Nat)} {ops:List Oper} (h:UZ P base tr ops=true):lu P base tr ops=true:=by
 unfold UZ at h
 rw [List.all_eq_true] at h
 unfold lu
 rw [List.all_eq_true]
 rintro ⟨o,i⟩ hi
 have h1:=h _ hi
 dsimp only at h1
 rw [Bool.and_eq_true]
 cases ha:(o.after.toList.all fun e=> match ja e with
  | some j=> Nat.blt j i
  | none=> true) with
 | false=> rw [ha,cond_false] at h1; cases h1
 | true=>
   rw [ha,cond_true] at h1
   refine ⟨?_,?_⟩
   · rw [List.all_eq_true] at ha ⊢
     intro e he
     have:=ha e he
     revert this
     cases ja e with
     | none=> intro _; rfl
     | some j=> intro hj; rw [Nat.blt_eq] at hj; exact decide_eq_true hj
   · rw [List.all_eq_true]
     rintro ⟨q,j⟩ hj
     dsimp only
     by_cases hji:j<i
     · cases hb:((xE ops []).getD i 0).testBit j with
       | true=> simp
       | false=>
         have hq:ops[j]? =some q:=by
          have:=List.mem_zipIdx_iff_getElem?.1 hj
          exact this
         have h2:=D8 h1 j (by
          show (2^i - (((xE ops []).getD i 0) % 2^i+1)).testBit j=true
          rw [Nat.testBit_two_pow_sub_succ (Nat.mod_lt _ (Nat.two_pow_pos i)),Nat.testBit_mod_two_pow,hb,decide_eq_true hji]
          rfl)
         rw [hq] at h2
         dsimp only at h2
         rw [h2]
         simp
     · simp [hji]

def abb (P:Program) (base:Nat) (tr:List (List Nat)) (ops:List Oper):Bool:=bif UZ P base tr ops then true else lu P base tr ops
theorem abd (P:Program) (base:Nat) (tr:List (List Nat)) (ops:List Oper):abb P base tr ops=lu P base tr ops:=by
 unfold abb
 cases h:UZ P base tr ops with
 | true=> rw [aba h]; rfl
 | false=> rfl

noncomputable def IQ (cx:Cx) (I:IL) (ops:Array Oper) (draw:Bool) (st:St) (κ:St→Out):Out:=
 lX cx I ops.toList ops.toList st.h.length ⟨st.t,st.h++List.replicate (gI cx.P ops.toList) none⟩ [] fun tr s=>
  bif !draw || abb cx.P st.h.length tr ops.toList then κ s else .fail 4

noncomputable def w9 (cx:Cx):Nat→Code→St→(Ex→St→Out)→Out
 | 0,_,_,_=> .fail 5
 | n+1,c,st,κ=>
   match c with
   | .skip=> κ .normal st
   | .region _ ops draw=> IQ cx (fun f as h κ=> match cx.js f with
    | some r=> aS [eqS as h r.1 r.2.1] (κ r.2.2.1 r.2.2.2)
    | none=> match cx.il f with
      | some fn=> match fn.body with
        | some c=> w9 cx n c ⟨t0 fn as,h⟩ (zi cx.P fn κ)
        | none=> .fail 33
      | none=> .fail 34) ops draw st (κ .normal)
   | .seq a b=> w9 cx n a st fun e s=> match e with
     | .normal=> w9 cx n b s κ
     | e=> κ e s
   | .cond (.tmp d) x y=> match glF st.t d with
     | .u (.one (.bool b))=> bif b then w9 cx n x (uA st d true) κ else w9 cx n y (uA st d false) κ
     | _=> .fail 6
   | .cond c x y=> match fo st.t c with
     | .u (.one (.bool b))=> bif b then w9 cx n x st κ else w9 cx n y st κ
     | _=> .fail 6
   | .block id b=> w9 cx n b st fun e s=> match e with
     | .exit j=> bif j==id then κ .normal s else κ (.exit j) s
     | e=> κ e s
   | .loop b=> w9 cx n b st fun e s=> match e with
     | .normal=> w9 cx n (.loop b) s κ
     | e=> κ e s
   | .exit id=> κ (.exit id) st
   | .ret=> κ .ret st
   | _=> .fail 7

theorem RS (cx:Cx): ∀ (n:Nat),w9 cx n=ev cx n
 | 0=> rfl
 | n+1=> by
   funext c st κ
   have ih:=RS cx n
   unfold w9 ev
   rw [ih]
   cases c with
   | region _ ops draw=>
     simp only [IQ,qp,EA,EB,abd]
     rfl
   | cond c x y=> 
     cases c with
     | tmp d=>
       simp only [fo,RY,IZ]
       cases hv:gl st.t d with
       | aC=> rfl
       | dX xs=> rfl
       | u x=>
         cases x with
         | ag c=> rfl
         | one l=>
           cases l with
           | bool b=> cases b<;> (simp only [N8 hv]; rfl)
           | _=> rfl
     | _=> rfl
   | _=> rfl

noncomputable def bG (cx:Cx) (n:Nat):List Code→St→(Ex→St→Out)→Out
 | [],st,κ=> κ .normal st
 | c::l,st,κ=> w9 cx n c st fun e s=> match e with
   | .normal=> bG cx n l s κ
   | e=> κ e s

theorem kL (cx:Cx) (n:Nat): ∀ (l:List Code) (st:St) (κ:Ex→St→Out),bG cx n l st κ=evL cx n l st κ
 | [],_,_=> rfl
 | c::l,st,κ=> by
   have ih:bG cx n l=evL cx n l:=by funext st κ; exact kL cx n l st κ
   unfold bG evL
   rw [ih,RS]
   try rfl

theorem aB {cx:Cx} (hk:Ok cx) {fn:Func} {n0 n base:Nat} {c:Code} {st:St} {v v0:V} {bs bs0:List bQ}
 (h:w9 cx n c st (jv cx fn base)= .done .ret ⟨[v0],bs0.map some⟩) (hv:aL v0 v) (hb:aaI bs0 bs):bM cx n0 c st (Post cx fn base v bs):=
 ek hk (by rw [← RS]; exact h) hv hb

theorem bZ {cx:Cx} (hk:Ok cx) {fn:Func} {n0 n base:Nat} {l:List Code} {st:St} {v v0:V} {bs bs0:List bQ}
 (h:bG cx n l st (jv cx fn base)= .done .ret ⟨[v0],bs0.map some⟩) (hv:aL v0 v) (hb:aaI bs0 bs):ae cx n0 l st (Post cx fn base v bs):=
 Ga hk (by rw [← kL]; exact h) hv hb

theorem ae.fw {cx:Cx} (hk:Ok cx) {n0 n k:Nat} {kt kh:List Nat} {m:Nat} {l:List Code} {st st':St} {e:Ex} {R:Ex→St→Prop}
 (h:bG cx n (l.take k) st (iF n0 kt kh m)= .done e st') (hR:andThen (fun s=> ae cx n0 (l.drop k) s R) R e st'):ae cx n0 l st R:=
 ae.pre hk (by rw [← kL]; exact h) hR

theorem ae.di {cx:Cx} (hk:Ok cx) {n0 n:Nat} {kt kh:List Nat} {m:Nat} {l:List Code} {st st':St} {e:Ex} {R:Ex→St→Prop}
 (h:bG cx n l st (iF n0 kt kh m)= .done e st') (hR:R e st'):ae cx n0 l st R:=
 ae.all hk (by rw [← kL]; exact h) hR
end Vx

/-
  An executor of Go code on values of its own: a block gets another number.
-/
namespace Vx
open Go Go.RowKit

def Tf (k j i:Nat):Nat:=match Nat.beq i k with
 | true=> j
 | false=> i

def adl (k j:Nat):L→L
 | .ptr id off=> .ptr (Tf k j id) off
 | .jA id s i r=> .jA (Tf k j id) s i r
 | .sl id off n c=> .sl (Tf k j id) off n c
 | .row id s off n mx=> .row (Tf k j id) s off n mx
 | .CV f caps=> .CV f (caps.map fun p=> (Tf k j p.1,p.2))
 | l=> l

def aka (k j:Nat):List L→List L
 | []=> []
 | l::ls=> adl k j l::aka k j ls

def ZT (k j:Nat):C→C
 | .ps l=> .ps (aka k j l)
 | c=> c

def akb (k j:Nat):U→U
 | .one l=> .one (adl k j l)
 | .ag c=> .ag (ZT k j c)

def aiq (k j:Nat):List U→List U
 | []=> []
 | u::us=> akb k j u::aiq k j us

def akc (k j:Nat):V→V
 | .aC=> .aC
 | .u x=> .u (akb k j x)
 | .dX xs=> .dX (aiq k j xs)

def adm (k j:Nat):List V→List V
 | []=> []
 | v::l=> akc k j v::adm k j l

def FX (k j:Nat):Option bQ→Option bQ
 | none=> none
 | some b=> some ⟨b.elem,ZT k j b.c⟩

def O9 (k j:Nat):Hp→Hp
 | []=> []
 | b::l=> FX k j b::O9 k j l

def Sr (k j:Nat) (s:St):Option St:=
 match hg s.h k,hg s.h j,Nat.blt j s.h.length with
 | some b,none,true=> some ⟨adm k j s.t,((O9 k j s.h).set k none).set j (FX k j (some b))⟩
 | _,_,_=> none

def moves:List (Nat × Nat)→St→Option St
 | [],s=> some s
 | (k,j)::l,s=> match Sr k j s with
   | some s'=> moves l s'
   | none=> none

section
variable {σ τ:Sg} {k j:Nat}

structure Ym (σ τ:Sg) (k j:Nat):Prop where
 m: ∀ i n,σ i=some n→τ (Tf k j i)=some n
 z:τ.z=σ.z
 w:τ.w=σ.w
 im:τ.im=σ.im

theorem dV.ren (h:Ym σ τ k j) {l:L} {xs:List Value} (hl:dV σ l xs):dV τ (adl k j l) xs:=by
 cases l with
 | ptr id off=> obtain ⟨b,hb,e⟩:=hl; exact ⟨b,h.m id b hb,e⟩
 | jA id s i r=> obtain ⟨b,hb,e⟩:=hl; exact ⟨b,h.m id b hb,e⟩
 | sl id off n c=> obtain ⟨b,hb,e⟩:=hl; exact ⟨b,h.m id b hb,e⟩
 | row id s off n mx=>
   rcases hl with ⟨b,cap,hb,hz,r⟩ | hl
   · exact .inl ⟨b,cap,h.m id b hb,by rw [h.z]; exact hz,r⟩
   · exact .inr hl
 | rd ts x=> simp only [dV,adl] at hl ⊢; rw [h.w,h.im]; exact hl
 | rp ts x off=> simp only [dV,adl] at hl ⊢; rw [h.w,h.im]; exact hl
 | CV f caps=>
   obtain ⟨vals,e,hall⟩:=hl
   refine ⟨vals,e,?_⟩
   clear e
   induction hall with
   | nil=> exact .nil
   | cons h1 _ ih=>
     obtain ⟨b,hb,e2⟩:=h1
     exact .cons ⟨b,h.m _ b hb,e2⟩ ih
 | _=> exact hl

theorem aX.ren (h:Ym σ τ k j): ∀ {l:List L} {xs:List Value},aX σ l xs→aX τ (aka k j l) xs
 | [],_,hl=> hl
 | _::_,_,⟨ys,zs,e,h1,h2⟩=> ⟨ys,zs,e,h1.ren h,aX.ren h h2⟩

theorem fD.ren (h:Ym σ τ k j) {c:C} {xs:List Value} (hl:fD σ c xs):fD τ (ZT k j c) xs:=by
 cases c with
 | ps l=> exact aX.ren h hl
 | big s c f=> exact ⟨hl.1,fun i hi=> ⟨aX.keep Kp.no (C9 (hl.2 i hi).2) (hl.2 i hi).1,(hl.2 i hi).2⟩⟩
 | row ts x=> simp only [fD,ZT] at hl ⊢; rw [h.w,h.im]; exact hl
 | dead=> trivial

theorem mP.ren (h:Ym σ τ k j) {u:U} {x:Value} (hl:mP σ u x):mP τ (akb k j u) x:=by
 cases u with
 | one l=> exact ⟨hl.1,hl.2.ren h⟩
 | ag c=> obtain ⟨xs,e,hc⟩:=hl; exact ⟨xs,e,hc.ren h⟩

theorem aQ.ren (h:Ym σ τ k j) {v:V} {x:Value} (hl:aQ σ v x):aQ τ (akc k j v) x:=by
 cases v with
 | aC=> trivial
 | u y=> exact mP.ren h hl
 | dX ys=>
   obtain ⟨xs,e,ha⟩:=hl
   refine ⟨xs,e,?_⟩
   clear e
   induction ha with
   | nil=> exact .nil
   | cons h1 _ ih=> exact .cons (mP.ren h h1) ih

theorem Pe (k j:Nat): ∀ l:List V,(adm k j l).length=l.length
 | []=> rfl
 | _::l=> by simp [adm,Pe k j l]

theorem Pd (k j:Nat): ∀ (l:List V) (i:Nat),gl (adm k j l) i=akc k j (gl l i)
 | [],_=> rfl
 | _::_,0=> rfl
 | _::l,i+1=> Pd k j l i

theorem FY (k j:Nat): ∀ l:Hp,(O9 k j l).length=l.length
 | []=> rfl
 | _::l=> by simp [O9,FY k j l]

theorem Pb (k j:Nat): ∀ (l:Hp) (i:Nat),hg (O9 k j l) i=FX k j (hg l i)
 | [],_=> rfl
 | _::_,0=> rfl
 | _::l,i+1=> Pb k j l i
end

theorem Vs {h:Hp} {id:Nat} {b:Option bQ} (hlt:id<h.length) (j:Nat):hg (h.set id b) j=if j=id then b else hg h j:=by
 unfold hg
 rw [List.getD_eq_getElem?_getD,List.getElem?_set,List.getD_eq_getElem?_getD]
 by_cases hj:j=id
 · subst hj; simp [hlt]
 · rw [if_neg (fun e=> hj e.symm),if_neg hj]

theorem gL.move {w0:World} {W:Nat→Prop} {k j:Nat} {σ0 σ:Sg} {st st':St} {a:Act} {w:World} (h:Sr k j st=some st')
 (hn: ∀ i b,σ0 i=some b→i≠k∧i≠j) (hs:Sub σ0 σ) (hr:gL w0 W 0 σ st a w): ∃ σ',Sub σ0 σ'∧gL w0 W 0 σ' st' a w:=by
 unfold Sr at h
 split at h
 · rename_i b hb hj hlt
   cases h
   have hlt:j<st.h.length:=by simpa using hlt
   have hkl:=zf hb
   have hjk:j≠k:=fun e=> by rw [e,hb] at hj; cases hj
   have hsj:σ j=none:=hr.h.fresh hj
   let τ:Sg:=⟨fun i=> if i=j then σ k else if i=k then none else σ i,σ.z,σ.w,σ.im⟩
   have tj:τ j=σ k:=if_pos rfl
   have tk:τ k=none:=by show (if k=j then σ k else if k=k then none else σ k)=none; rw [if_neg hjk.symm,if_pos rfl]
   have tn: ∀ i,i≠j→i≠k→τ i=σ i:=fun i h1 h2=> by show (if i=j then σ k else if i=k then none else σ i)=σ i; rw [if_neg h1,if_neg h2]
   have hren:Ym σ τ k j:=by
    refine ⟨fun i n hi=> ?_,rfl,rfl,rfl⟩
    unfold Tf
    split
    · rename_i e
      have:i=k:=Nat.eq_of_beq_eq_true e
      subst this
      rw [tj]; exact hi
    · rename_i e
      have h1:i≠k:=fun h=> by subst h; simp at e
      have h2:i≠j:=fun h=> by subst h; rw [hsj] at hi; cases hi
      rw [tn i h2 h1]; exact hi
   -- what stands where
   have hget: ∀ i,hg (((O9 k j st.h).set k none).set j (FX k j (some b))) i=if i=j then FX k j (some b) else if i=k then none else FX k j (hg st.h i):=by
    intro i
    rw [Vs (by simpa [FY] using hlt),Vs (by simpa [FY] using hkl),Pb]
   -- a number from now, and one from before
   let o:Nat→Nat:=fun i=> if i=j then k else i
   have hto: ∀ i n,τ i=some n→σ (o i)=some n∧(i=j∨(i≠j∧i≠k)):=by
    intro i n hi
    by_cases h1:i=j
    · subst h1
      rw [tj] at hi
      exact ⟨by show σ (if i=i then k else i)=some n; rw [if_pos rfl]; exact hi, .inl rfl⟩
    · by_cases h2:i=k
      · subst h2; rw [tk] at hi; cases hi
      · rw [tn i h1 h2] at hi
        exact ⟨by show σ (if i=j then k else i)=some n; rw [if_neg h1]; exact hi, .inr ⟨h1,h2⟩⟩
   have hoh: ∀ i,i=j∨(i≠j∧i≠k)→hg (((O9 k j st.h).set k none).set j (FX k j (some b))) i=FX k j (hg st.h (o i)):=by
    intro i hi
    rw [hget]
    rcases hi with h1 | ⟨h1,h2⟩
    · subst h1
      rw [if_pos rfl]
      show _=FX k i (hg st.h (if i=i then k else i))
      rw [if_pos rfl,hb]
    · rw [if_neg h1,if_neg h2]
      show _=FX k j (hg st.h (if i=j then k else i))
      rw [if_neg h1]
   have hdead: ∀ i,i=j∨(i≠j∧i≠k)→dR st.h (o i)→dR (((O9 k j st.h).set k none).set j (FX k j (some b))) i:=by
    rintro i hi ⟨e,he⟩
    exact ⟨e,by rw [hoh i hi,he]; rfl⟩
   refine ⟨τ,⟨fun i n hi=> ⟨(tn i (hn i n hi).2 (hn i n hi).1).trans (hs.get hi),(hs.1 i n hi).2⟩,hs.2.1,hs.2.2⟩,?_⟩
   refine ⟨hr.defers,⟨by simp only [Pe]; exact hr.t.1,fun i=> by rw [Pd]; exact (hr.t.2 i).ren hren⟩,⟨?_,?_,?_,?_,?_,hr.h.imm⟩,{ hr.fr with own:=fun i n hi _=> hr.fr.own (o i) n (hto i n hi).1 (Nat.zero_le _) }⟩
   · intro i b' hb'
     by_cases h2:i=k
     · rw [hget,h2,if_neg hjk.symm,if_pos rfl] at hb'; cases hb'
     · have hi:i=j∨(i≠j∧i≠k):=(Classical.em (i=j)).imp_right fun h=> ⟨h,h2⟩
       rw [hoh i hi] at hb'
       have hτ:τ i=σ (o i):=by
        rcases hi with h1 | ⟨h1,h2⟩
        · subst h1; rw [tj]; show _=σ (if i=i then k else i); rw [if_pos rfl]
        · rw [tn i h1 h2]; show _=σ (if i=j then k else i); rw [if_neg h1]
       cases hc:hg st.h (o i) with
       | none=> rw [hc] at hb'; cases hb'
       | some b0=>
         rw [hc] at hb'
         cases hb'
         rcases hr.h.blk (o i) b0 hc with ⟨n,xs,e1,e2,e3⟩ | ⟨e1,e2⟩
         · exact .inl ⟨n,xs,by rw [hτ]; exact e1,e2,e3.ren hren⟩
         · refine .inr ⟨?_,by rw [hτ]; exact e2⟩
           rcases e1 with e1 | ⟨ts,e1⟩
           · left; show ZT k j b0.c= .dead; rw [e1]; rfl
           · right; exact ⟨ts,by show ZT k j b0.c= .row ts []; rw [e1]; rfl⟩
   · intro i i' n _ hi hi'
     obtain ⟨a1,a2⟩:=hto i n hi
     obtain ⟨b1,b2⟩:=hto i' n hi'
     rcases hr.h.inj (o i) (o i') n (Nat.zero_le _) a1 b1 with e | e | e
     · left
       by_cases h1:i=j<;> by_cases h2:i'=j
       · rw [h1,h2]
       · exfalso
         have e:(if i=j then k else i)=(if i'=j then k else i'):=e
         rw [if_pos h1,if_neg h2] at e
         rcases b2 with b2 | b2
         · exact h2 b2
         · exact b2.2 e.symm
       · exfalso
         have e:(if i=j then k else i)=(if i'=j then k else i'):=e
         rw [if_neg h1,if_pos h2] at e
         rcases a2 with a2 | a2
         · exact h1 a2
         · exact a2.2 e
       · have e:(if i=j then k else i)=(if i'=j then k else i'):=e
         rw [if_neg h1,if_neg h2] at e
         exact e
     · exact .inr (.inl (hdead i a2 e))
     · exact .inr (.inr (hdead i' b2 e))
   · intro i n hi
     obtain ⟨a1,a2⟩:=hto i n hi
     obtain ⟨e1,e2⟩:=hr.h.live (o i) n a1
     refine ⟨e1,?_⟩
     rw [hoh i a2]
     cases hc:hg st.h (o i) with
     | none=> rw [hc] at e2; cases e2
     | some b0=> rfl
   · intro i n hi
     exact hr.h.siz (o i) n (hto i n hi).1
   · intro i n _ hi
     exact hr.h.sep (o i) n (Nat.zero_le _) (hto i n hi).1
 · cases h

theorem gL.moves {w0:World} {W:Nat→Prop} {σ0:Sg} {a:Act} {w:World}: ∀ {l:List (Nat × Nat)} {σ:Sg} {st st':St} (_: ∀ p∈l, ∀ i b,σ0 i=some b→i≠p.1∧i≠p.2),moves l st=some st'→Sub σ0 σ→gL w0 W 0 σ st a w→
 ∃ σ',Sub σ0 σ'∧gL w0 W 0 σ' st' a w
 | [],σ,st,st',_,h,hs,hr=> by cases h; exact ⟨σ,hs,hr⟩
 | (k,j)::l,σ,st,st',hn,h,hs,hr=> by
   simp only [Vx.moves] at h
   split at h
   · rename_i s' hm
     obtain ⟨σ',h1,h2⟩:=gL.move hm (hn (k,j) (by simp)) hs hr
     exact gL.moves (fun p hp=> hn p (by simp [hp])) h h1 h2
   · cases h

noncomputable def Zh (kt kh:List Nat) (m:Nat) (mv:List (Nat × Nat)) (m':Nat):Ex→St→Out:=fun e s=>
 match forget 0 kt kh m s with
 | some s'=> match moves mv s' with
   | some s2=> match forget 0 kt (List.range m') m' s2 with
     | some s3=> .done e s3
     | none=> .fail 13
   | none=> .fail 12
 | none=> .fail 11

theorem E5 {cx:Cx} (hro:cx.ro=0) {kt kh:List Nat} {m m':Nat} {mv:List (Nat × Nat)} {st st':St} {e e2:Ex} {R:Ex→St→Prop} (hκ:Zh kt kh m mv m' e2 st= .done e st') (hR:R e st'):
 e=e2∧ae cx 0 [] st (fun _ s'=> R e s'):=by
 unfold Zh at hκ
 split at hκ
 · rename_i s' hf
   split at hκ
   · rename_i s2 hm
     split at hκ
     · rename_i s3 hf2
       cases hκ
       refine ⟨rfl,?_⟩
       intro w0 W σ0 σ a w q hn hs hr hq
       obtain ⟨σ',h1,h2⟩:=gL.forget hf hn hs hr
       rw [hro] at h2
       obtain ⟨σ2,h3,h4⟩:=gL.moves (fun p _ i b hi=> absurd (hn i b hi) (Nat.not_lt_zero _)) hm h1 h2
       obtain ⟨σ3,h5,h6⟩:=gL.forget hf2 hn h3 h4
       rw [← hro] at h6
       exact hq st' σ3 hR h5 h6
     · cases hκ
   · cases hκ
 · cases hκ

theorem ae.amI {cx:Cx} (hk:Ok cx) (hro:cx.ro=0) {n k:Nat} {kt kh:List Nat} {m m':Nat} {mv:List (Nat × Nat)} {l:List Code} {st st':St} {e:Ex} {R:Ex→St→Prop}
 (h:bG cx n (l.take k) st (Zh kt kh m mv m')= .done e st') (hR:andThen (fun s=> ae cx 0 (l.drop k) s R) R e st'):ae cx 0 l st R:=by
 rw [← List.take_append_drop k l]
 refine ae.append (gV hk (out:= .done e st') trivial (by rw [← kL]; exact h) ?_)
 intro e2 s hκ
 obtain ⟨h1,h2⟩:=E5 (R:=andThen (fun s=> ae cx 0 (l.drop k) s R) R) hro hκ hR
 subst h1
 exact h2

theorem ae.allM {cx:Cx} (hk:Ok cx) (hro:cx.ro=0) {n:Nat} {kt kh:List Nat} {m m':Nat} {mv:List (Nat × Nat)} {l:List Code} {st st':St} {e:Ex} {R:Ex→St→Prop}
 (h:bG cx n l st (Zh kt kh m mv m')= .done e st') (hR:R e st'):ae cx 0 l st R:=by
 refine gV hk (out:= .done e st') trivial (by rw [← kL]; exact h) ?_
 intro e2 s hκ
 obtain ⟨h1,h2⟩:=E5 (R:=R) hro hκ hR
 subst h1
 exact h2
end Vx
