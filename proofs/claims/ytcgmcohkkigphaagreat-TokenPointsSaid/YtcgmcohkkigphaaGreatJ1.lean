/-
  From a contract to a row: plain arguments, the answer true. Of arguments: what their cells are. Of the answer: the row's ending.
-/
import Derived.Test.YtcgmcohkkigphaaGreatL1
import Derived.ProofKit
namespace Vx
open Go Go.RowKit Go.ChangeShapes Go.WideShapes

def VB (P:Program) (t:TypeId):Bool:=
 match P.underlying t with
 | some (.struct _)=> true
 | some (.array _ _)=> true
 | _=> false

theorem Jd {P:Program} {W:World} {r:Reach} {base:Nat} {t:TypeId} {v:Value} (ha:VB P t=true) (h:Value.okWide P W r base t v):
 ∃ cs,v= .agg cs∧cs.size=P.cellsOf t∧Row.okWide P W r base t cs:=by
 unfold VB at ha
 unfold Value.okWide at h
 split at ha
 · rename_i hu; rw [hu] at h; exact h
 · rename_i hu; rw [hu] at h; exact h
 · cases ha

theorem aa8 {P:Program} {W:World} {r:Reach} {base:Nat} {u:TypeId} {k:IntKind} {v:Value} (hu:P.underlying u=some (.int k)) (h:Cell.okWide P W r base u v): ∃ n,v= .int k n∧jm k n=true:=by
 cases v with
 | int k' n=>
   simp only [Cell.okWide,hu,Cell.ok] at h
   obtain ⟨rfl,hn⟩:=h
   exact ⟨n,rfl,vM.2 (by simpa [IntKind.has] using hn)⟩
 | _=> simp_all [Cell.okWide,Cell.ok]

theorem IY {k:IntKind}: ∀ (xs:List Value),(∀ x∈xs, ∃ n,x= .int k n∧jm k n=true)→ ∃ f:Nat→Int,(∀ i,i<xs.length→jm k (f i)=true)∧ ∀ j,xs=(List.range' j xs.length).map fun i=> Value.int k (f (i - j))
 | [],_=> ⟨fun _=> 0,fun i hi=> absurd hi (by simp),fun _=> rfl⟩
 | x::xs,h=> by
   obtain ⟨n,rfl,hn⟩:=h x (by simp)
   obtain ⟨f,hf,e⟩:=IY xs (fun y hy=> h y (by simp [hy]))
   refine ⟨fun i=> match i with | 0=> n | i+1=> f i,fun i hi=> ?_,fun j=> ?_⟩
   · cases i with
     | zero=> exact hn
     | succ i=> exact hf i (by simpa using hi)
   · simp only [List.length_cons,List.range'_succ,List.map_cons,Nat.sub_self,List.cons.injEq,true_and]
     conv=> lhs; rw [e (j+1)]
     refine List.map_congr_left fun i hi=> ?_
     rw [List.mem_range'] at hi
     obtain ⟨m,hm,rfl⟩:=hi
     have:j+1+1*m - j=(j+1+1*m - (j+1))+1:=by omega
     rw [this]

theorem zP {σ:Sg} {k:IntKind} {f:Nat→Int}: ∀ (l:List Nat),(∀ i∈l,jm k (f i)=true)→aX σ (l.map fun i=> .int k (f i)) (l.map fun i=> Value.int k (f i))
 | [],_=> rfl
 | i::l,h=> ⟨[_],_,rfl,⟨rfl,h i (by simp)⟩,zP l (fun j hj=> h j (by simp [hj]))⟩

theorem Sc {P:Program} {W:World} {r:Reach} {base:Nat} {t u:TypeId} {v:Value} {k:IntKind} {m:Nat} (ha:VB P t=true) (hc:P.cellsOf t=m) (ht:P.cellTypes P.depth t=some (List.replicate m u)) (hu:P.underlying u=some (.int k)) (hm:0<m)
 (h:Value.okWide P W r base t v): ∃ f:Nat→Int, ∀ σ,aQ σ (.ag (.ps ((List.range m).map fun i=> .int k (f i)))) v:=by
 obtain ⟨cs,rfl,hs,ts,hts,_,hcell⟩:=Jd ha h
 rw [ht] at hts
 cases hts
 have hall: ∀ x∈cs.toList, ∃ n,x= .int k n∧jm k n=true:=by
  intro x hx
  obtain ⟨i,hi⟩:=List.getElem?_of_mem hx
  have hi':cs[i]? =some x:=by rw [← Array.getElem?_toList]; exact hi
  obtain ⟨u',hu',hok⟩:=hcell i x hi'
  have:u'=u:=by
   have:=List.mem_of_getElem? hu'
   exact List.eq_of_mem_replicate this
  subst this
  exact aa8 hu hok
 obtain ⟨f,hf,e⟩:=IY cs.toList hall
 have hl:cs.toList.length=m:=by rw [← hc,← hs]; simp
 rw [hl] at hf e
 refine ⟨f,fun σ=> ⟨cs.toList,by simp,?_⟩⟩
 have e0:=e 0
 simp only [Nat.sub_zero] at e0
 rw [← List.range_eq_range'] at e0
 rw [e0]
 have hm2:=hm
 exact zP _ (fun i hi=> hf i (List.mem_range.1 hi))

theorem xA {H:Type} {enc:TypeId × Value→H} {P:Program} (hl:laidOutB P=true) {W W':World} (hb:Below W.heap.size W W'): ∀ {ts:List TypeId} {vs:List Value} {ds:List (DataW H)} {ps:List MemPlace},
 (ts.all fun t=> P.readableRec t && decide (t<P.types.size))=true→DataW.TrodAll enc P W 0 (fun _=> true) true ts vs ds ps→(∀ x∈ps,x.block<W.heap.size)→
 DataW.TrodAll enc P W' 0 (fun b=> decide (b<W.heap.size)) true ts vs ds ps
 | [],_,_,_,_,h,_=> by
   obtain ⟨rfl,rfl,rfl⟩:=trodAll_nil h
   exact h
 | t::ts,_,_,_,ht,h,hlt=> by
   obtain ⟨v,vs,d,ds,a,b,rfl,rfl,rfl,h1,h2⟩:=trodAll_cons h
   simp only [List.all_cons,Bool.and_eq_true,decide_eq_true_iff] at ht
   exact ⟨a,b,Below.trod hl ht.1.1 ht.1.2 h1 hb (fun x hx=> hlt x (by simp [hx])),xA hl hb ht.2 h2 (fun x hx=> hlt x (by simp [hx])),rfl⟩

theorem Ji {H:Type} {enc:TypeId × Value→H} {P:Program} {f:Func} {s:ChangeSpec} {apart fresh handsOn:Bool} {W W':World} {args:Array Value} {ds gs:List (DataW H)} {before:List MemPlace} {tb:TypeId}
 (hl:laidOutB P=true) (hts:(f.params.toList.all fun t=> P.readableRec t && decide (t<P.types.size))=true) (hr:f.resultTypes= #[tb]) (hb:P.underlying tb=some .bool)
 (hv:s.vars= []) (hsp:s.fn H ds={ results:= [.lit (.bool true)],args:=ds })
 (hW:DataW.Whole enc P f.params.toList s.vars apart W args.toList ds gs before) (hbe:Below W.heap.size W W'):s.post enc P f apart fresh handsOn false W args (.bool true) W':=by
 have hW2:=hW
 obtain ⟨p,q,hA,hV,rfl,hfz,hnd⟩:=hW
 rw [hv] at hV
 obtain ⟨rfl,rfl⟩:=trodVars_none hV
 have hlt: ∀ x∈p,x.block<W.heap.size:=fun x hx=> hW2.lt x (by simp [hx])
 refine ⟨ds,[],p++ [],[],p,[],hW2,?_,?_,?_,hbe.frame _,fun h=> by cases h⟩
 · rw [List.append_nil,hsp,hr]
   exact trodAll_mk1 (shut_bool hb true)
 · rw [List.append_nil,hsp]
   exact xA hl hbe hts hA hlt
 · rw [List.append_nil,hsp,hv]
   rfl
end Vx

/-
  From a contract to a row: the call.
-/
namespace Vx
open Go Go.RowKit

theorem bT.start (W:World):bT 0 (oH W) [] W:=
 ⟨fun _ _ h=> (by cases h),fun _ _ _ _ h=> (by cases h),fun _ _ h=> (by cases h),fun _ _ h=> (by cases h),fun _ _ _ h=> (by cases h),fun _ h=> ⟨h,rfl⟩⟩

theorem O8: ∀ f ids,reach (hg []) f ids= []
 | 0,_=> rfl
 | f+1,ids=> by
   have hn: ∀ i,hg [] i=none:=fun i=> rfl
   unfold reach
   rw [List.flatMap_eq_nil_iff]
   intro i _
   rw [hn i]

theorem yN: ∀ {l:List V},(∀ v∈l,fE v=none)→fM (hg []) l=some (l.map fun v=> (v,[]))
 | [],_=> rfl
 | v::l,h=> by simp only [fM,oJ,h v (by simp),O8,yN (l:=l) fun u hu=> h u (by simp [hu]),List.map_cons]

theorem Ea {P : Program} {f : FuncId} {fn : Func} {c : Code} (hf : P.funcs[f]? = some fn) (hb : fn.body = some c) (hname : (fn.name == "runtime.NumGoroutine") = false)
 {ts:List Ty} {F:List D→Option (List Bool × V)} (hok:bg P f (spec ts F)) {args:List V} (chk:List Bool) (hsp:spec ts F 0 (args.map fun v=> (v,[]))=some (chk, .bool true,[])) (hchk:allT chk)
 (hid: ∀ v∈args,fE v=none) {vals:List Value} {W:World} (hvals:eD (aQ (oH W)) args vals):
 Calls P f vals.toArray W fun e W'=> e= .returned (.bool true)∧Below W.heap.size W W':=by
 have hc:=hok 0 (args.map fun v=> (v,[])) chk (.bool true) [] hsp hchk 0 (oH W) [] W args vals (bT.start W) (yN hid) hvals rfl
 have hrun:(callFunc f vals.toArray).run P W= .ok (.enter f vals.toArray) W:=by
  simp only [callFunc,Sem.run_bind,run_program,Result.andThen_ok,hf]
  rw [if_neg (by rw [hname]; simp)]
  simp [hb]
 unfold iD at hc
 rw [hrun] at hc
 refine Calls.mono hc fun e W' he=> ?_
 cases e with
 | returned x=>
   obtain ⟨σ',h1,h2,_⟩:=he
   have:x= .bool true:=by
    have h3:=h2.2
    simp only [dV] at h3
    simpa using h3
   rw [this]
   exact ⟨rfl,h1⟩
 | _=> exact he.elim
end Vx
