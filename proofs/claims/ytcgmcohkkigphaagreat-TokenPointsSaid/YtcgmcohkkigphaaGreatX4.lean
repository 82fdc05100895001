/-
  An executor of Go code on values of its own: less may be said of a state.
-/
import Derived.Test.YtcgmcohkkigphaaGreatX3
namespace Vx
open Go Go.RowKit

structure Uy (s s':St):Prop where
 len:s.t.length=s'.t.length
 t: ∀ i,gl s.t i=gl s'.t i∨aL (gl s.t i) (gl s'.t i)
 h: ∀ i,hg s.h i=hg s'.h i∨ ∃ e l l',hg s.h i=some ⟨e, .ps l⟩∧hg s'.h i=some ⟨e, .ps l'⟩∧kF (.ps l) (.ps l')

theorem gL.ent {w0:World} {W:Nat→Prop} {ro:Nat} {σ:Sg} {s s':St} {a:Act} {w:World} (he:Uy s s') (hr:gL w0 W ro σ s a w):gL w0 W ro σ s' a w:=by
 have hdead: ∀ i,dR s.h i→dR s'.h i:=by
  rintro i ⟨e,h⟩
  rcases he.h i with k | ⟨e',l,l',h1,_⟩
  · exact ⟨e,by rw [← k]; exact h⟩
  · rw [h] at h1; cases h1
 refine ⟨hr.defers,⟨by rw [← he.len]; exact hr.t.1,fun i=> ?_⟩,⟨?_,?_,?_,hr.h.siz,hr.h.sep,hr.h.imm⟩,hr.fr⟩
 · have hv:=hr.t.2 i
   rcases he.t i with k | k
   · rw [← k]; exact hv
   · exact k _ _ hv
 · intro id b hb
   rcases he.h id with k | ⟨e,l,l',h1,h2,h3⟩
   · exact hr.h.blk id b (by rw [k]; exact hb)
   · rw [h2] at hb
     cases hb
     rcases hr.h.blk id _ h1 with ⟨n,xs,g1,g2,g3⟩ | ⟨g1 | ⟨ts,g1⟩,_⟩
     · exact .inl ⟨n,xs,g1,g2,h3 _ _ g3⟩
     · cases g1
     · cases g1
 · intro i j n h1 h2 h3
   rcases hr.h.inj i j n h1 h2 h3 with e | e | e
   · exact .inl e
   · exact .inr (.inl (hdead i e))
   · exact .inr (.inr (hdead j e))
 · intro i n hi
   obtain ⟨e1,e2⟩:=hr.h.live i n hi
   refine ⟨e1,?_⟩
   rcases he.h i with k | ⟨e,l,l',_,h2,_⟩
   · rw [← k]; exact e2
   · rw [h2]; rfl

theorem ae.ak5 {cx:Cx} (hk:Ok cx) {n0 n:Nat} {kt kh:List Nat} {m:Nat} {l:List Code} {st st1 st':St} {e:Ex} {R:Ex→St→Prop}
 (h:bG cx n l st (iF n0 kt kh m)= .done e st1) (he:Uy st1 st') (hR:R e st'):ae cx n0 l st R:=by
 refine gV hk (out:= .done e st1) trivial (by rw [← kL]; exact h) ?_
 intro e2 s hκ w0 W σ0 σ a w q hn hs hr hq
 unfold iF at hκ
 split at hκ
 · rename_i s' hf
   cases hκ
   obtain ⟨σ',h1,h2⟩:=gL.forget hf hn hs hr
   exact hq st' σ' hR h1 (h2.ent he)
 · cases hκ

theorem ae.amH {cx:Cx} (hk:Ok cx) {n0 n k:Nat} {kt kh:List Nat} {m:Nat} {l:List Code} {st st1 st':St} {e:Ex} {R:Ex→St→Prop}
 (h:bG cx n (l.take k) st (iF n0 kt kh m)= .done e st1) (he:Uy st1 st') (hR:andThen (fun s=> ae cx n0 (l.drop k) s R) R e st'):ae cx n0 l st R:=by
 rw [← List.take_append_drop k l]
 refine ae.append (ae.ak5 hk h he hR)
end Vx

/-
  An executor of Go code on values of its own: less may be said of any block of a state; a block of code within a list.
-/
namespace Vx
open Go Go.RowKit

structure tK (s s':St):Prop where
 len:s.t.length=s'.t.length
 t: ∀ i,gl s.t i=gl s'.t i∨aL (gl s.t i) (gl s'.t i)
 h: ∀ i,hg s.h i=hg s'.h i∨ ∃ e c c',hg s.h i=some ⟨e,c⟩∧hg s'.h i=some ⟨e,c'⟩∧kF c c'∧(c= .dead→c'= .dead)∧(∀ ts,c= .row ts []→ ∃ ts',c'= .row ts' [])

theorem gL.afT {w0:World} {W:Nat→Prop} {ro:Nat} {σ:Sg} {s s':St} {a:Act} {w:World} (he:tK s s') (hr:gL w0 W ro σ s a w):gL w0 W ro σ s' a w:=by
 have hdead: ∀ i,dR s.h i→dR s'.h i:=by
  rintro i ⟨e,h⟩
  rcases he.h i with k | ⟨e',c,c',h1,h2,_,h4,_⟩
  · exact ⟨e,by rw [← k]; exact h⟩
  · rw [h] at h1; cases h1
    exact ⟨e,by rw [h2,h4 rfl]⟩
 refine ⟨hr.defers,⟨by rw [← he.len]; exact hr.t.1,fun i=> ?_⟩,⟨?_,?_,?_,hr.h.siz,hr.h.sep,hr.h.imm⟩,hr.fr⟩
 · have hv:=hr.t.2 i
   rcases he.t i with k | k
   · rw [← k]; exact hv
   · exact k _ _ hv
 · intro id b hb
   rcases he.h id with k | ⟨e,c,c',h1,h2,h3,h4,h5⟩
   · exact hr.h.blk id b (by rw [k]; exact hb)
   · rw [h2] at hb
     cases hb
     rcases hr.h.blk id _ h1 with ⟨n,xs,g1,g2,g3⟩ | ⟨g1 | ⟨ts,g1⟩,g2⟩
     · exact .inl ⟨n,xs,g1,g2,h3 _ _ g3⟩
     · exact .inr ⟨.inl (h4 g1),g2⟩
     · exact .inr ⟨.inr (h5 ts g1),g2⟩
 · intro i j n h1 h2 h3
   rcases hr.h.inj i j n h1 h2 h3 with e | e | e
   · exact .inl e
   · exact .inr (.inl (hdead i e))
   · exact .inr (.inr (hdead j e))
 · intro i n hi
   obtain ⟨e1,e2⟩:=hr.h.live i n hi
   refine ⟨e1,?_⟩
   rcases he.h i with k | ⟨e,c,c',_,h2,_⟩
   · rw [← k]; exact e2
   · rw [h2]; rfl

theorem ae.afT {cx:Cx} {n0:Nat} {l:List Code} {s s':St} {R:Ex→St→Prop} (he:tK s s') (h:ae cx n0 l s' R):ae cx n0 l s R:=by
 cases l with
 | nil=> exact fun w0 W σ0 σ a w q hn hs hr hq=> h w0 W σ0 σ a w q hn hs (hr.afT he) hq
 | cons c l=> exact fun w0 W σ0 σ a w Q hn hs hr hq=> (h:bM cx n0 c s' _) w0 W σ0 σ a w Q hn hs (hr.afT he) hq

theorem ae.ak6 {cx:Cx} (hk:Ok cx) {n0 n:Nat} {kt kh:List Nat} {m:Nat} {l:List Code} {st st1 st':St} {e:Ex} {R:Ex→St→Prop}
 (h:bG cx n l st (iF n0 kt kh m)= .done e st1) (he:tK st1 st') (hR:R e st'):ae cx n0 l st R:=by
 refine gV hk (out:= .done e st1) trivial (by rw [← kL]; exact h) ?_
 intro e2 s hκ w0 W σ0 σ a w q hn hs hr hq
 unfold iF at hκ
 split at hκ
 · rename_i s' hf
   cases hκ
   obtain ⟨σ',h1,h2⟩:=gL.forget hf hn hs hr
   exact hq st' σ' hR h1 (h2.afT he)
 · cases hκ

theorem ae.aj6 {cx:Cx} (hk:Ok cx) {n0 n k:Nat} {kt kh:List Nat} {m:Nat} {l:List Code} {st st1 st':St} {e:Ex} {R:Ex→St→Prop}
 (h:bG cx n (l.take k) st (iF n0 kt kh m)= .done e st1) (he:tK st1 st') (hR:andThen (fun s=> ae cx n0 (l.drop k) s R) R e st'):ae cx n0 l st R:=by
 rw [← List.take_append_drop k l]
 refine ae.append (ae.ak6 hk h he hR)

theorem ae.blk {cx:Cx} {n0 id:Nat} {b:Code} {l:List Code} {st:St} {R:Ex→St→Prop}
 (h:ae cx n0 (items b) st (IX id (andThen (fun s=> ae cx n0 l s R) R))):ae cx n0 (.block id b::l) st R:=
 bM.block (bM.items _ _ _ h)

theorem kF.of' {c c':C} (h:aL (.ag c) (.ag c')):kF c c':=by
 intro σ xs hx
 obtain ⟨ys,e,hy⟩:=h σ (.agg xs.toArray) ⟨xs,rfl,hx⟩
 have:xs=ys:=by simpa using e
 rw [this]; exact hy
def gP (c:Code) (i:Nat):Code:=inB (it c i)
theorem ae.gP {cx:Cx} {n0 i id:Nat} {c:Code} {st:St} {R:Ex→St→Prop} (he:(items c).drop i= .block id (Vx.gP c i)::(items c).drop (i+1))
 (h:ae cx n0 (items (Vx.gP c i)) st (IX id (andThen (fun s=> ae cx n0 ((items c).drop (i+1)) s R) R))):ae cx n0 ((items c).drop i) st R:=by
 rw [he]
 exact ae.blk h
theorem bM.cond {cx:Cx} {n0:Nat} {x:Operand} {y z:Code} {st:St} {R:Ex→St→Prop} {b:Bool} (hb:fo st.t x= .u (.one (.bool b)))
 (h:bM cx n0 (bif b then y else z) st R):bM cx n0 (.cond x y z) st R:=by
 intro w0 W σ0 σ a w Q hn hs hr hq
 have hv:=eG hr.t x
 rw [hb] at hv
 refine wp_cond (GZ hv) ?_
 cases b with
 | true=> exact h w0 W σ0 σ a w Q hn hs hr hq
 | false=> exact h w0 W σ0 σ a w Q hn hs hr hq
def uZ (c:Code) (i:Nat):Code:=match it c i with
 | .cond _ y _=> y
 | c=> c
def AJ (c:Code) (i:Nat):Code:=match it c i with
 | .cond _ _ z=> z
 | c=> c
theorem ae.uZ {cx:Cx} {n0 i:Nat} {c:Code} {st:St} {R:Ex→St→Prop} (x:Operand) (he:(items c).drop i= .cond x (Vx.uZ c i) (Vx.AJ c i)::(items c).drop (i+1)) (hb:fo st.t x= .u (.one (.bool true)))
 (h:ae cx n0 (items (Vx.uZ c i)) st (andThen (fun s=> ae cx n0 ((items c).drop (i+1)) s R) R)):ae cx n0 ((items c).drop i) st R:=by
 rw [he]
 exact bM.cond hb (bM.items _ _ _ h)
theorem ae.AJ {cx:Cx} {n0 i:Nat} {c:Code} {st:St} {R:Ex→St→Prop} (x:Operand) (he:(items c).drop i= .cond x (Vx.uZ c i) (Vx.AJ c i)::(items c).drop (i+1)) (hb:fo st.t x= .u (.one (.bool false)))
 (h:ae cx n0 (items (Vx.AJ c i)) st (andThen (fun s=> ae cx n0 ((items c).drop (i+1)) s R) R)):ae cx n0 ((items c).drop i) st R:=by
 rw [he]
 exact bM.cond hb (bM.items _ _ _ h)
theorem bM.flags {cx cx':Cx} (hP:cx.P=cx'.P) (hr:cx.ro=cx'.ro):bM cx=bM cx':=by
 obtain ⟨P,ro,sy,rw,tab⟩:=cx
 obtain ⟨P',ro',sy',rw',tab'⟩:=cx'
 simp only at hP hr
 subst hP hr
 rfl
theorem ae.flags {cx cx':Cx} (hP:cx.P=cx'.P) (hr:cx.ro=cx'.ro) {n0:Nat}: ∀ {l:List Code} {st:St} {R:Ex→St→Prop},ae cx n0 l st R→ae cx' n0 l st R
 | [],st,R,h=> by
   obtain ⟨P,ro,sy,rw,tab⟩:=cx
   obtain ⟨P',ro',sy',rw',tab'⟩:=cx'
   simp only at hP hr
   subst hP hr
   exact h
 | c::l,st,R,h=> by
   have h1:bM cx n0 c st (andThen (fun s=> ae cx n0 l s R) R):=h
   rw [bM.flags hP hr] at h1
   refine bM.mono h1 fun e s hes=> ?_
   cases e with
   | normal=> exact ae.flags hP hr hes
   | exit id=> exact hes
   | ret=> exact hes
end Vx

/-
  An executor of Go code on values of its own: cells by a function, and one by one.
-/
namespace Vx
open Go Go.RowKit

def psI (k:IntKind) (c:Nat) (r:Nat→Int):C:= .ps ((List.range c).map fun i=> .int k (r i))
def wU (k:IntKind) (c:Nat) (r:Nat→Int):C:= .big 1 c fun i=> [.int k (r i)]

theorem xV {σ:Sg} {k:IntKind} {r:Nat→Int}: ∀ {c a:Nat} {xs:List Value},aX σ ((List.range' a c).map fun i=> .int k (r i)) xs↔xs=(List.range' a c).map (fun i=> Value.int k (r i))∧ ∀ i,a≤i→i<a+c→jm k (r i)=true
 | 0,a,xs=> by
   simp only [List.range'_zero,List.map_nil,aX]
   exact ⟨fun h=> ⟨h,fun i _ _=> by omega⟩,fun h=> h.1⟩
 | c+1,a,xs=> by
   rw [List.range'_succ,List.map_cons,List.map_cons]
   constructor
   · rintro ⟨ys,zs,rfl,h1,h2⟩
     obtain ⟨h3,h4⟩:=(xV (a:=a+1)).1 h2
     obtain ⟨h5,h6⟩:ys= [.int k (r a)]∧jm k (r a)=true:=h1
     subst h3 h5
     refine ⟨rfl,fun i hi hi2=> ?_⟩
     rcases Nat.eq_or_lt_of_le hi with rfl | hlt
     · exact h6
     · exact h4 i hlt (by omega)
   · rintro ⟨rfl,h⟩
     exact ⟨[.int k (r a)],_,rfl,⟨rfl,h a (Nat.le_refl _) (by omega)⟩,(xV (a:=a+1)).2 ⟨rfl,fun i hi hi2=> h i (by omega) (by omega)⟩⟩

theorem alI {k:IntKind} {c:Nat} {r:Nat→Int}:kF (psI k c r) (wU k c r):=by
 intro σ xs h
 have h:aX σ ((List.range c).map fun i=> .int k (r i)) xs:=h
 rw [List.range_eq_range'] at h
 obtain ⟨rfl,hk⟩:=xV.1 h
 refine ⟨by simp,fun i hi=> ⟨?_,rfl⟩⟩
 have:((List.map (fun i=> Value.int k (r i)) (List.range' 0 c)).drop (i*1)).take 1= [Value.int k (r i)]:=by
  apply List.ext_getElem?
  intro j
  rw [List.getElem?_take,List.getElem?_drop,List.getElem?_map]
  cases j with
  | zero=> simp [hi]
  | succ j=> simp
 rw [this]
 exact ⟨[_],[],rfl,⟨rfl,hk i (by omega) (by omega)⟩,rfl⟩

theorem aa0 {k:IntKind} {c p:Nat} {r:Nat→Int} {v:Int}:(C.big 1 c fun j=> if j=p then [L.int k v] else [L.int k (r j)])=wU k c fun j=> if j=p then v else r j:=by
 unfold wU
 congr 1
 funext j
 by_cases h:j=p
 · simp only [if_pos h]
 · simp only [if_neg h]
end Vx

/-
  An executor of Go code on values of its own: elements by a function, and one behind the other.
-/
namespace Vx
open Go Go.RowKit

theorem Cf {σ:Sg}: ∀ {l m:List L} {xs:List Value},aX σ (l++m) xs→ ∃ ys zs,xs=ys++zs∧aX σ l ys∧aX σ m zs
 | [],m,xs,h=> ⟨[],xs,rfl,rfl,h⟩
 | x::l,m,xs,h=> by
   obtain ⟨ys,zs,e,h1,h2⟩: ∃ ys zs,xs=ys++zs∧dV σ x ys∧aX σ (l++m) zs:=h
   obtain ⟨us,ws,e2,h3,h4⟩:=Cf h2
   exact ⟨ys++us,ws,by rw [e,e2,List.append_assoc],⟨ys,us,rfl,h1,h3⟩,h4⟩

theorem Jj {σ:Sg} {s:Nat} {f:Nat→List L} (hs: ∀ i,Cr (f i)=s): ∀ {c a:Nat} {xs:List Value},aX σ ((List.range' a c).flatMap f) xs→
 xs.length=s*c∧ ∀ i,i<c→aX σ (f (a+i)) ((xs.drop (i*s)).take s)
 | 0,a,xs,h=> by
   have h:xs= []:=h
   subst h
   exact ⟨by simp,fun i hi=> by omega⟩
 | c+1,a,xs,h=> by
   rw [List.range'_succ,List.flatMap_cons] at h
   obtain ⟨ys,zs,rfl,h1,h2⟩:=Cf h
   obtain ⟨h3,h4⟩:=Jj hs h2
   have hy:ys.length=s:=by rw [h1.len,hs]
   refine ⟨by rw [List.length_append,hy,h3,Nat.mul_succ]; omega,fun i hi=> ?_⟩
   cases i with
   | zero=>
     rw [Nat.zero_mul,List.drop_zero,Nat.add_zero,List.take_append_of_le_length (by omega),List.take_of_length_le (by omega)]
     exact h1
   | succ i=>
     have:=h4 i (by omega)
     rw [Nat.succ_mul,Nat.add_comm (i*s),← hy,← List.drop_drop,List.drop_left,hy]
     rw [show a+(i+1)=a+1+i by omega]
     exact this

theorem alh {s c:Nat} {f:Nat→List L} (hs: ∀ i,Cr (f i)=s) (hf: ∀ i,EM (f i)=true):kF (.ps ((List.range c).flatMap f)) (.big s c f):=by
 intro σ xs h
 have h:aX σ ((List.range c).flatMap f) xs:=h
 rw [List.range_eq_range'] at h
 obtain ⟨h1,h2⟩:=Jj hs h
 refine ⟨h1,fun i hi=> ⟨?_,hf i⟩⟩
 have:=h2 i hi
 rw [Nat.zero_add] at this
 exact this
end Vx

/-
  An executor of Go code on values of its own: a call in the midst of a body, by what its own body comes to in the caller's memory.
-/
namespace Vx
open Go Go.RowKit

def ak2 (cx:Cx) (fn:Func) (v:V) (h':Hp):Ex→St→Prop:=fun e s=> (e= .normal∨e= .ret)∧ED cx.P fn s=some v∧s.h=h'

theorem mK.Lu {cx : Cx} {f : FuncId} {fn : Func} {c : Code} {as : List V} {h h' : Hp} {v : V} (hf : cx.P.funcs[f]? = some fn) (hb : fn.body = some c) (hname : (fn.name == "runtime.NumGoroutine") = false)
 (hruns:bM cx h.length c ⟨t0 fn as,h⟩ (ak2 cx fn v h')):mK cx.P cx.ro f as h v h':=by
 intro w0 W σ w vals hh hfr hall
 have hrun:(callFunc f vals.toArray).run cx.P w= .ok (.enter f vals.toArray) w:=by
  simp only [callFunc,Sem.run_bind,run_program,Result.andThen_ok,hf]
  rw [if_neg (by rw [hname]; simp)]
  simp [hb]
 have hl:=hall.length
 have hrep:gL w0 W cx.ro σ ⟨t0 fn as,h⟩ { tmps:=vals.toArray++Array.replicate (fn.ntmps - vals.toArray.size) undef,defers:= [] } w:=by
  refine ⟨rfl,⟨by simp [t0,hl],fun i=> ?_⟩,hh,hfr⟩
  have h1:=KX hall (fn.ntmps - as.length) i
  have e:(vals.toArray++Array.replicate (fn.ntmps - vals.toArray.size) undef).getD i undef=(vals++List.replicate (fn.ntmps - as.length) undef).getD i undef:=by
   rw [Array.getD_eq_getD_getElem?,List.getD_eq_getElem?_getD]
   rw [← Array.getElem?_toList]
   simp [hl]
  rw [e]
  exact h1
 unfold iD
 rw [hrun]
 refine calls_of_wp hf hb ?_
 have hlt: ∀ i b,σ i=some b→i<h.length:=by
  intro i b hi
  have:=(hh.live i b hi).2
  cases hg:hg h i with
  | none=> rw [hg] at this; cases this
  | some b'=> exact zf hg
 refine hruns w0 W σ σ _ w _ hlt (Sub.refl _) hrep ?_
 rintro e s σ' a' w' ⟨he,hres,rfl⟩ hsub hr'
 obtain ⟨x,hx,hvx⟩:=pg hres hr'.t hr'.h
 rcases he with rfl | rfl
 · exact ⟨hr'.defers,x,hx,σ',hsub,hvx,hr'.h,hr'.fr⟩
 · exact ⟨hr'.defers,x,hx,σ',hsub,hvx,hr'.h,hr'.fr⟩

def Vm (n0:Nat):List (Nat × Nat)→Bool
 | []=> true
 | (k,j)::l=> Nat.ble n0 k && Nat.ble n0 j && Vm n0 l
theorem IU {n0:Nat}: ∀ {l:List (Nat × Nat)},Vm n0 l=true→ ∀ p∈l,n0≤p.1∧n0≤p.2
 | [],_,p,hp=> by simp at hp
 | (k,j)::l,h,p,hp=> by
   simp only [Vm,Bool.and_eq_true] at h
   rcases List.mem_cons.1 hp with rfl | hp
   · exact ⟨Nat.le_of_ble_eq_true h.1.1,Nat.le_of_ble_eq_true h.1.2⟩
   · exact IU h.2 p hp

noncomputable def xO (n0:Nat) (kt kh:List Nat) (m:Nat) (mv:List (Nat × Nat)) (m':Nat):Ex→St→Out:=fun e s=>
 match Vm n0 mv,forget n0 kt kh m s with
 | true,some s'=> match moves mv s' with
   | some s2=> match forget n0 kt (List.range m') m' s2 with
     | some s3=> .done e s3
     | none=> .fail 13
   | none=> .fail 12
 | _,_=> .fail 11

theorem xP {cx:Cx} (hro:cx.ro=0) {n0:Nat} {kt kh:List Nat} {m m':Nat} {mv:List (Nat × Nat)} {st st':St} {e e2:Ex} {R:Ex→St→Prop} (hκ:xO n0 kt kh m mv m' e2 st= .done e st') (hR:R e st'):
 e=e2∧ae cx n0 [] st (fun _ s'=> R e s'):=by
 unfold xO at hκ
 split at hκ
 · rename_i s' hfar hf
   split at hκ
   · rename_i s2 hm
     split at hκ
     · rename_i s3 hf2
       cases hκ
       refine ⟨rfl,?_⟩
       intro w0 W σ0 σ a w q hn hs hr hq
       obtain ⟨σ',h1,h2⟩:=gL.forget hf hn hs hr
       rw [hro] at h2
       obtain ⟨σ2,h3,h4⟩:=gL.moves (fun p hp i b hi=> by
        have h1:=IU hfar p hp
        have h2:=hn i b hi
        exact ⟨by omega,by omega⟩) hm h1 h2
       obtain ⟨σ3,h5,h6⟩:=gL.forget hf2 hn h3 h4
       rw [← hro] at h6
       exact hq st' σ3 hR h5 h6
     · cases hκ
   · cases hκ
 · cases hκ

theorem ae.O1 {cx:Cx} (hk:Ok cx) (hro:cx.ro=0) {n0 n k:Nat} {kt kh:List Nat} {m m':Nat} {mv:List (Nat × Nat)} {l:List Code} {st st':St} {e:Ex} {R:Ex→St→Prop}
 (h:bG cx n (l.take k) st (xO n0 kt kh m mv m')= .done e st') (hR:andThen (fun s=> ae cx n0 (l.drop k) s R) R e st'):ae cx n0 l st R:=by
 rw [← List.take_append_drop k l]
 refine ae.append (gV hk (out:= .done e st') trivial (by rw [← kL]; exact h) ?_)
 intro e2 s hκ
 obtain ⟨h1,h2⟩:=xP (R:=andThen (fun s=> ae cx n0 (l.drop k) s R) R) hro hκ hR
 subst h1
 exact h2

theorem ae.ak7 {cx:Cx} (hk:Ok cx) (hro:cx.ro=0) {n0 n:Nat} {kt kh:List Nat} {m m':Nat} {mv:List (Nat × Nat)} {l:List Code} {st st':St} {e:Ex} {R:Ex→St→Prop}
 (h:bG cx n l st (xO n0 kt kh m mv m')= .done e st') (hR:R e st'):ae cx n0 l st R:=by
 refine gV hk (out:= .done e st') trivial (by rw [← kL]; exact h) ?_
 intro e2 s hκ
 obtain ⟨h1,h2⟩:=xP (R:=R) hro hκ hR
 subst h1
 exact h2

noncomputable def wM (n0:Nat) (kt kh:List Nat) (m:Nat) (mv:List (Nat × Nat)) (m':Nat) (kt2 kh2:List Nat) (m2:Nat):Ex→St→Out:=fun e s=>
 match e with
 | .normal=> xO n0 kt kh m mv m' .normal s
 | .exit i=> iF n0 kt2 kh2 m2 (.exit i) s
 | .ret=> iF n0 kt2 kh2 m2 .ret s

theorem Sj {cx:Cx} (hro:cx.ro=0) {n0:Nat} {kt kh:List Nat} {m m':Nat} {mv:List (Nat × Nat)} {kt2 kh2:List Nat} {m2:Nat} {st st':St} {e e2:Ex} {R:Ex→St→Prop}
 (hκ:wM n0 kt kh m mv m' kt2 kh2 m2 e2 st= .done e st') (hR:R e st'):e=e2∧ae cx n0 [] st (fun _ s'=> R e s'):=by
 have hf: ∀ e2,iF n0 kt2 kh2 m2 e2 st= .done e st'→e=e2∧ae cx n0 [] st (fun _ s'=> R e s'):=by
  intro e2 hκ
  unfold iF at hκ
  split at hκ
  · rename_i s' hf
    cases hκ
    refine ⟨rfl,?_⟩
    intro w0 W σ0 σ a w q hn hs hr hq
    obtain ⟨σ',h1,h2⟩:=gL.forget hf hn hs hr
    exact hq st' σ' hR h1 h2
  · cases hκ
 cases e2 with
 | normal=> exact xP hro hκ hR
 | exit i=> exact hf _ hκ
 | ret=> exact hf _ hκ

theorem ae.dS {cx:Cx} (hk:Ok cx) (hro:cx.ro=0) {n0 n:Nat} {kt kh:List Nat} {m m':Nat} {mv:List (Nat × Nat)} {kt2 kh2:List Nat} {m2:Nat} {l:List Code} {st st':St} {e:Ex} {R:Ex→St→Prop}
 (h:bG cx n l st (wM n0 kt kh m mv m' kt2 kh2 m2)= .done e st') (hR:R e st'):ae cx n0 l st R:=by
 refine gV hk (out:= .done e st') trivial (by rw [← kL]; exact h) ?_
 intro e2 s hκ
 obtain ⟨h1,h2⟩:=Sj (R:=R) hro hκ hR
 subst h1
 exact h2

theorem bT.ext {ro:Nat} {σ:Sg} {h h':Hp} {w:World} (he: ∀ j,hg h' j=hg h j) (hh:bT ro σ h w):bT ro σ h' w:=by
 have hd: ∀ j,dR h j→dR h' j:=fun j ⟨e,hj⟩=> ⟨e,by rw [he]; exact hj⟩
 refine ⟨fun id b hb=> hh.blk id b (by rw [← he]; exact hb),fun i j n h1 h2 h3=> ?_,fun i n hi=> ?_,hh.siz,hh.sep,hh.imm⟩
 · rcases hh.inj i j n h1 h2 h3 with e | e | e
   · exact .inl e
   · exact .inr (.inl (hd i e))
   · exact .inr (.inr (hd j e))
 · obtain ⟨e1,e2⟩:=hh.live i n hi
   exact ⟨e1,by rw [he]; exact e2⟩

theorem gL.xS {w0:World} {W:Nat→Prop} {ro:Nat} {σ:Sg} {st:St} {a:Act} {w:World} {k s:Nat} {el:TypeId} {ts:List LT} (hk:gl st.t k= .one .fG) (hr:gL w0 W ro σ st a w):
 gL w0 W ro σ ⟨st.t.set k (.one (.row st.h.length s 0 0 0)),st.h++ [some ⟨el, .row ts []⟩]⟩ a w:=by
 refine ⟨hr.defers,⟨by simp only [List.length_set]; exact hr.t.1,fun i=> ?_⟩,?_,hr.fr⟩
 · show aQ σ (gl (st.t.set k (.one (.row st.h.length s 0 0 0))) i) _
   rw [K3]
   split
   · rename_i hc
     have hv:=hr.t.2 k
     rw [hk] at hv
     obtain ⟨_,e⟩:=hv
     have e: [a.tmps.getD k undef]= [.slice none 0 0]:=e
     rw [hc.1,(List.cons.inj e).1]
     exact ⟨rfl, .inr ⟨rfl,rfl, .inl ⟨rfl,rfl⟩⟩⟩
   · exact hr.t.2 i
 · have h1:bT ro σ (st.h++ [none]) w:=by
    refine bT.ext (fun j=> ?_) hr.h
    unfold hg
    rw [List.getD_eq_getElem?_getD,List.getD_eq_getElem?_getD]
    rcases Nat.lt_trichotomy j st.h.length with h | h | h
    · rw [List.getElem?_append_left h]
    · subst h; simp
    · rw [List.getElem?_eq_none (by simp; omega),List.getElem?_eq_none (by omega)]
   have h2:=h1.xS (id:=st.h.length) (el:=el) (ts:=ts) (by simp) (by unfold hg; simp)
   have e:(st.h++ [none]).set st.h.length (some ⟨el, .row ts []⟩)=st.h++ [some ⟨el, .row ts []⟩]:=by simp
   rw [e] at h2
   exact h2

theorem ae.xS {cx:Cx} {n0 k s:Nat} {el:TypeId} {ts:List LT} {l:List Code} {st:St} {R:Ex→St→Prop} (hk:gl st.t k= .one .fG)
 (h:ae cx n0 l ⟨st.t.set k (.one (.row st.h.length s 0 0 0)),st.h++ [some ⟨el, .row ts []⟩]⟩ R):ae cx n0 l st R:=by
 cases l with
 | nil=> exact fun w0 W σ0 σ a w q hn hs hr hq=> h w0 W σ0 σ a w q hn hs (hr.xS hk) hq
 | cons c l=> exact fun w0 W σ0 σ a w Q hn hs hr hq=> (h:bM cx n0 c _ _) w0 W σ0 σ a w Q hn hs (hr.xS hk) hq
end Vx

/-
  An executor of Go code on values of its own: a function that hands on a slice within its answer.
-/
namespace Vx
open Go Go.RowKit

def ak3 (cx:Cx) (fn:Func) (v:V):Ex→St→Prop:=fun e s=> (e= .normal∨e= .ret)∧ED cx.P fn s=some v

def aeZ (k:IntKind) (b c:Nat):aj:=fun _ args=> match args with
 | [(.u (.ag (.ps [.pk k' b' c' a])),_),(.u (.one (.sl id off len cap)),_)]=> match decide (k'=k∧b'=b∧c'=c) with
   | true=> some ([], .ag (.ps [.pk k b c a, .sl id off len cap]),[])
   | false=> none
 | _=> none

def sg1 (σ:Sg) (n:Nat) (w:World):Sg:=⟨fun i=> if i=0 then some n else none,σ.z,w,fun _=> False⟩

theorem DW {g:Nat→Option bQ}: ∀ {l:List V} {args:List (V × List (Nat × bQ))},fM g l=some args→args.map (·.1)=l
 | [],_,h=> by cases h; rfl
 | v::l,_,h=> by
   simp only [fM] at h
   split at h
   · rename_i a r e1 e2
     cases h
     rw [List.map_cons,DW e2,(xD e1).1]
   · cases h

theorem af1 {cx : Cx} {f : FuncId} {fn : Func} {c : Code} {k : IntKind} {b m : Nat} (hf : cx.P.funcs[f]? = some fn) (hb : fn.body = some c) (hname : (fn.name == "runtime.NumGoroutine") = false) (hro : cx.ro = 1)
 (hruns: ∀ (a off len cap:Nat) (e:TypeId),bM cx 1 c ⟨t0 fn [.ag (.ps [.pk k b m a]), .one (.sl 0 off len cap)],[some ⟨e, .dead⟩]⟩ (ak3 cx fn (.ag (.ps [.pk k b m a, .sl 0 off len cap])))):bg cx.P f (aeZ k b m):=by
 intro base args chk v bs hsp _ ro σ h w l vals hh hargs hvals _
 unfold aeZ at hsp
 split at hsp
 · rename_i k' b' m' a o1 id off len cap o2
   split at hsp
   · rename_i hd
     obtain ⟨rfl,rfl,rfl⟩:=of_decide_eq_true hd
     cases hsp
     have hl:=DW hargs
     subst hl
     cases hvals with
     | cons h1 hvals=> cases hvals with
       | cons h2 hvals=> cases hvals with
         | nil=>
           rename_i x1 x2
           obtain ⟨hone,n,hn,he⟩:=h2
           obtain ⟨hlt,hsome⟩:=hh.live id n hn
           obtain ⟨cs,t,fr,hcs,hz⟩:=hh.siz id n hn
           have hcell: ∃ xs e,fA w n xs e:=by
            cases hb0:hg h id with
            | none=> rw [hb0] at hsome; cases hsome
            | some b0=>
              rcases hh.blk id b0 hb0 with ⟨n',xs,g1,g2,_⟩ | ⟨_,g1⟩
              · rw [hn] at g1; cases g1; exact ⟨xs,_,g2⟩
              · rw [hn] at g1; cases g1
           obtain ⟨xs,e,hcell⟩:=hcell
           have hrel:bT cx.ro (sg1 σ n w) [some ⟨e, .dead⟩] w:=by
            rw [hro]
            have hz0: ∀ i b,(sg1 σ n w) i=some b→i=0∧b=n:=by
             intro i b hi
             show _∧_
             by_cases hi0:i=0
             · subst hi0; cases hi; exact ⟨rfl,rfl⟩
             · have:(sg1 σ n w) i=none:=if_neg hi0
               rw [this] at hi; cases hi
            refine ⟨?_,?_,?_,?_,?_,?_⟩
            · intro i b hi
              cases i with
              | zero=> cases hi; exact .inl ⟨n,xs,rfl,hcell,trivial⟩
              | succ i=> cases hi
            · intro i j b hr hi _
              have:=(hz0 i b hi).1
              omega
            · intro i b hi
              obtain ⟨rfl,rfl⟩:=hz0 i b hi
              exact ⟨hlt,rfl⟩
            · intro i b hi
              obtain ⟨rfl,rfl⟩:=hz0 i b hi
              exact ⟨cs,t,fr,hcs,hz⟩
            · intro i b hr hi
              have:=(hz0 i b hi).1
              omega
            · intro b hb; exact hb.elim
           have hfr:Fr w (fun _=> False) cx.ro (sg1 σ n w) w:=by
            refine ⟨rfl,rfl,rfl,Nat.le_refl _,fun _ _ _=> rfl,?_⟩
            intro i b hi hr
            rw [hro] at hr
            have:(sg1 σ n w) i=none:=if_neg (by omega)
            rw [this] at hi; cases hi
           have hall:eD (aQ (sg1 σ n w)) [.ag (.ps [.pk k' b' m' a]), .one (.sl 0 off len cap)] [x1,x2]:=by
            refine .cons ?_ (.cons ⟨hone,n,rfl,he⟩ .nil)
            obtain ⟨ys,ey,zs,us,eu,hp,hu⟩:=h1
            exact ⟨ys,ey,zs,us,eu,hp,hu⟩
           have hrun:(callFunc f [x1,x2].toArray).run cx.P w= .ok (.enter f [x1,x2].toArray) w:=by
            simp only [callFunc,Sem.run_bind,run_program,Result.andThen_ok,hf]
            rw [if_neg (by rw [hname]; simp)]
            simp [hb]
           have hrep:gL w (fun _=> False) cx.ro (sg1 σ n w) ⟨t0 fn [.ag (.ps [.pk k' b' m' a]), .one (.sl 0 off len cap)],[some ⟨e, .dead⟩]⟩ { tmps:= [x1,x2].toArray++Array.replicate (fn.ntmps - [x1,x2].toArray.size) undef,defers:= [] } w:=by
            refine ⟨rfl,⟨by simp [t0]; omega,fun i=> ?_⟩,hrel,hfr⟩
            have h1:=KX hall (fn.ntmps - 2) i
            have e:([x1,x2].toArray++Array.replicate (fn.ntmps - [x1,x2].toArray.size) undef).getD i undef=([x1,x2]++List.replicate (fn.ntmps - 2) undef).getD i undef:=by
             rw [Array.getD_eq_getD_getElem?,List.getD_eq_getElem?_getD]
             rw [← Array.getElem?_toList]
             simp
            rw [e]
            exact h1
           unfold iD
           rw [hrun]
           refine calls_of_wp hf hb ?_
           refine hruns a off len cap e w (fun _=> False) (sg1 σ n w) (sg1 σ n w) _ w _ (fun i b hi=> ?_) (Sub.refl _) hrep ?_
           · by_cases hi0:i=0
             · omega
             · have:(sg1 σ n w) i=none:=if_neg hi0
               rw [this] at hi; cases hi
           rintro ex s σ' a' w' ⟨hex,hres⟩ hsub hr'
           obtain ⟨x,hx,hvx⟩:=pg hres hr'.t hr'.h
           have hbelow:Below w.heap.size w w':=⟨hr'.fr.os,hr'.fr.tape,hr'.fr.output,hr'.fr.size,fun k hk=> hr'.fr.old k hk (fun h=> h)⟩
           have hfin:aQ σ (.ag (.ps [.pk k' b' m' a, .sl id off len cap])) x:=by
            obtain ⟨ys,ey,zs,us,eu,hp,zs2,us2,eu2,⟨n2,hn2,e2⟩,hu⟩:=hvx
            have hn3:σ' 0=some n:=(hsub.1 0 n rfl).1
            rw [hn3] at hn2
            cases hn2
            exact ⟨ys,ey,zs,us,eu,hp,zs2,us2,eu2,⟨n,hn,e2⟩,hu⟩
           rcases hex with rfl | rfl
           · exact ⟨hr'.defers,x,hx,σ,hbelow,hfin,rfl⟩
           · exact ⟨hr'.defers,x,hx,σ,hbelow,hfin,rfl⟩
   · cases hsp
 · cases hsp
end Vx
