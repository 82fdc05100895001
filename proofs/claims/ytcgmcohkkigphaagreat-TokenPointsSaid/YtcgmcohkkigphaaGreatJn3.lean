/-
  From a contract to a row: arguments of any data, slices within slices too: what they hold. No program stands in it.
-/
import Derived.Test.YtcgmcohkkigphaaGreatJ1
import Derived.OpenShut
namespace Vx
open Go Go.RowKit

def ZU:Nat→List LT→List LT
 | 0,_=> []
 | n+1,ts=> ts++ZU n ts

def tyD (P:Program):Nat→TypeId→Option (List LT)
 | 0,_=> none
 | f+1,t=>
   match P.underlying t with
   | some (.int k)=> some [.int k]
   | some .bool=> some [.bool]
   | some .string=> some [.str]
   | some (.slice e)=> match tyD P f e with
     | some ts=> match decide (bP ts=P.cellsOf e∧0<P.cellsOf e) with
       | true=> some [.sl ts]
       | false=> none
     | none=> none
   | some (.array n e)=> match P.underlying e with
     | some (.int k)=> match decide (P.cellsOf e=1∧P.cellsOf t=n∧0<n) with
       | true=> match k.signed with
         | true=> some (List.replicate n (.int k))
         | false=> some [.pk k k.bits n]
       | false=> none
     | _=> match tyD P f e with
       | some ts=> match decide (bP ts=P.cellsOf e∧P.cellsOf t=n*P.cellsOf e) with
         | true=> some (ZU n ts)
         | false=> none
       | none=> none
   | some (.struct fs)=> goF (tyD P f) P fs.toList 0 (P.cellsOf t)
   | _=> none
 where
 goF (g:TypeId→Option (List LT)) (P:Program):List Field→Nat→Nat→Option (List LT)
  | [],n,m=> match decide (n=m) with
    | true=> some []
    | false=> none
  | x::fs,n,m=> match g x.type with
    | some a=> match decide (x.offset=n),goF g P fs (n+P.cellsOf x.type) m with
      | true,some b=> match decide (bP a=P.cellsOf x.type) with
        | true=> some (a++b)
        | false=> none
      | _,_=> none
    | none=> none

section
variable {H:Type} {enc:TypeId × Value→H} {P:Program} {w:World} {base:Nat} {sp:Nat→Bool} {held:Bool}

abbrev Ze (w:World):Nat→Prop:=fun n=> n<w.heap.size

theorem aT.append: ∀ {ts us:List LT} {ds es:List D} {xs ys:List Value},ds.length=ts.length→aT w (Ze w) ts ds xs→aT w (Ze w) us es ys→aT w (Ze w) (ts++us) (ds++es) (xs++ys)
 | [],us,ds,es,xs,ys,hl,h1,h2=> by
   simp only [aT] at h1
   subst h1
   have:ds= []:=List.eq_nil_of_length_eq_zero hl
   subst this
   exact h2
 | t::ts,us,[],es,xs,ys,hl,_,_=> by simp at hl
 | t::ts,us,d::ds,es,xs,ys,hl,h1,h2=> by
   simp only [aT] at h1
   obtain ⟨a,b,rfl,h3,h4⟩:=h1
   simp only [List.cons_append,aT,List.append_assoc]
   exact ⟨a,b++ys,rfl,h3,aT.append (by simpa using hl) h4 h2⟩

theorem aT.one {t:LT} {d:D} {xs:List Value} (h:eF w (Ze w) t d xs):aT w (Ze w) [t] [d] xs:=by
 simp only [aT]
 exact ⟨xs,[],by simp,h,rfl⟩

theorem VG {k:IntKind} {n:Int} (h:(Lit.int k n).wf=true):jm k n=true:=by
 rw [vM]
 simpa [Lit.wf] using h

theorem Ao {k:IntKind} (b:Nat): ∀ (l:List Int) (r:List L), ∃ ok n,jT k b l.length (l.map (fun i=> L.int k i)++r)=some (ok,n,r)
 | [],r=> ⟨true,0,rfl⟩
 | a::l,r=> by
   obtain ⟨ok,n,h⟩:=Ao (k:=k) b l r
   refine ⟨decide (a<((2^b:Nat):Int)) && ok,a.toNat+2^b*n,?_⟩
   simp only [List.map_cons,List.cons_append,List.length_cons,jT,decide_true,h]

theorem Jk {σ:Sg} {k:IntKind}: ∀ (l:List Int),(∀ i∈l,jm k i=true)→aX σ (l.map fun i=> .int k i) (l.map fun i=> Value.int k i)
 | [],_=> rfl
 | i::l,h=> ⟨[_],_,rfl,⟨rfl,h i (by simp)⟩,Jk l (fun j hj=> h j (by simp [hj]))⟩

theorem SS {k:IntKind} (hk:k.signed=false) (a:Int) (l:List Int) (h: ∀ i∈a::l,jm k i=true): ∃ d,aT w (Ze w) [.pk k k.bits (l.length+1)] [d] ((a::l).map fun i=> Value.int k i):=by
 obtain ⟨ok,n,ht⟩:=Ao (k:=k) k.bits (a::l) []
 have hd:wL [.pk k k.bits (l.length+1)] ((a::l).map fun i=> .int k i)=some [.n n]:=by
  rw [List.append_nil] at ht
  simp only [List.map_cons] at ht ⊢
  simp only [List.length_cons] at ht
  simp only [wL,Kr,ht,hk,and_self,decide_true]
 exact ⟨.n n,ql (σ:=oH w) hd (Jk (a::l) h)⟩

theorem VA {k:IntKind}: ∀ (cs:List Value),(∀ v∈cs, ∃ n,v= .int k n∧jm k n=true)→ ∃ l:List Int,cs=l.map (fun i=> Value.int k i)∧l.length=cs.length∧ ∀ i∈l,jm k i=true
 | [],_=> ⟨[],rfl,rfl,fun _ h=> by simp at h⟩
 | v::cs,h=> by
   obtain ⟨n,rfl,hn⟩:=h v (by simp)
   obtain ⟨l,rfl,h1,h2⟩:=VA cs (fun u hu=> h u (by simp [hu]))
   exact ⟨n::l,rfl,by simp,fun i hi=> by rcases List.mem_cons.1 hi with rfl | hi; exact hn; exact h2 i hi⟩

theorem aT.ints {k:IntKind}: ∀ (l:List Int),(∀ i∈l,jm k i=true)→aT w (Ze w) (List.replicate l.length (.int k)) (l.map .i) (l.map fun i=> Value.int k i)
 | [],_=> by simp only [List.length_nil,List.replicate_zero,aT]; rfl
 | i::l,h=> by
   simp only [List.length_cons,List.replicate_succ,List.map_cons,aT]
   refine ⟨[.int k i],_,rfl,?_,aT.ints l (fun j hj=> h j (by simp [hj]))⟩
   simp only [List.headD_cons,eF,D.xy,true_and]
   exact h i (by simp)

theorem aT.rep {ts:List LT} {z:Nat}: ∀ (n:Nat) (cs:List Value),cs.length=n*z→(∀ i,i<n→ ∃ ds:List D,ds.length=ts.length∧aT w (Ze w) ts ds ((cs.drop (i*z)).take z))→
 ∃ ds:List D,ds.length=(ZU n ts).length∧aT w (Ze w) (ZU n ts) ds cs
 | 0,cs,hl,_=> by
   have:cs= []:=List.eq_nil_of_length_eq_zero (by simpa using hl)
   subst this
   exact ⟨[],rfl,by simp only [ZU,aT]⟩
 | n+1,cs,hl,h=> by
   obtain ⟨d1,h1,h2⟩:=h 0 (by omega)
   rw [Nat.zero_mul,List.drop_zero] at h2
   rw [Nat.succ_mul] at hl
   obtain ⟨d2,h3,h4⟩:=aT.rep (z:=z) n (cs.drop z) (by rw [List.length_drop]; omega) (fun i hi=> by
    obtain ⟨d,e1,e2⟩:=h (i+1) (by omega)
    refine ⟨d,e1,?_⟩
    rw [List.drop_drop,show z+i*z=(i+1)*z by rw [Nat.succ_mul,Nat.add_comm]]
    exact e2)
   refine ⟨d1++d2,by simp [ZU,h1,h3],?_⟩
   have:=aT.append h1 h2 h4
   rw [List.take_append_drop] at this
   exact this

theorem NP {g:TypeId→Option (List LT)} {cs:List Value} {m:Nat} (hm:cs.length=m): ∀ (fs:List Field) (n:Nat) {ts:List LT},tyD.goF g P fs n m=some ts→
 (∀ x∈fs, ∀ ts,g x.type=some ts→ ∃ ds:List D,ds.length=ts.length∧aT w (Ze w) ts ds ((cs.drop x.offset).take (P.cellsOf x.type)))→ ∃ ds:List D,ds.length=ts.length∧aT w (Ze w) ts ds (cs.drop n)
 | [],n,ts,h,_=> by
   simp only [tyD.goF] at h
   split at h
   · rename_i hd
     cases h
     have hd:=of_decide_eq_true hd
     refine ⟨[],rfl,?_⟩
     simp only [aT]
     exact List.drop_eq_nil_of_le (by omega)
   · cases h
 | x::fs,n,ts,h,hx=> by
   simp only [tyD.goF] at h
   split at h
   · rename_i a ha
     split at h
     · rename_i b ho hb
       split at h
       · rename_i hz
         cases h
         have ho:=of_decide_eq_true ho
         have hz:=of_decide_eq_true hz
         obtain ⟨d1,h1,h2⟩:=hx x (by simp) a ha
         rw [ho] at h2
         obtain ⟨d2,h3,h4⟩:=NP hm fs _ hb (fun y hy=> hx y (by simp [hy]))
         refine ⟨d1++d2,by simp [h1,h3],?_⟩
         have:=aT.append h1 h2 h4
         rw [← List.drop_drop,List.take_append_drop] at this
         exact this
       · cases h
     · cases h
   · cases h

theorem J4: ∀ (f:Nat) {t:TypeId} {ts:List LT} {fuel:Nat} {cs:List Value} {x:DataW H × List MemPlace},tyD P f t=some ts→DataW.trod enc P w base sp held fuel t cs=some x→
 ∃ ds:List D,ds.length=ts.length∧aT w (Ze w) ts ds cs
 | 0,t,ts,fuel,cs,x,h,_=> by simp [tyD] at h
 | f+1,t,ts,fuel,cs,x,h,hx=> by
   have ih:=fun {t ts fuel cs x}=> J4 f (t:=t) (ts:=ts) (fuel:=fuel) (cs:=cs) (x:=x)
   simp only [tyD] at h
   split at h
   · rename_i k hu
     cases h
     obtain ⟨n,rfl,_,hw⟩:=DataW.trod_int hu hx
     exact ⟨[.i n],rfl,aT.one (by unfold eF; exact ⟨rfl,VG hw⟩)⟩
   · rename_i hu
     cases h
     obtain ⟨b,rfl,_⟩:=DataW.trod_bool hu hx
     exact ⟨[.b b],rfl,aT.one (by unfold eF; rfl)⟩
   · rename_i hu
     cases h
     obtain ⟨b,rfl,_⟩:=DataW.trod_string hu hx
     exact ⟨[.s b],rfl,aT.one (by unfold eF; rfl)⟩
   · rename_i e hu
     split at h
     · rename_i es hes
       split at h
       · rename_i hz
         cases h
         obtain ⟨hz,hz0⟩:=of_decide_eq_true hz
         rcases DataW.trod_slice hu hx with ⟨rfl,_⟩ | ⟨a,len,cap,elems,rest,n,rfl,rfl,_,hb,hlc,hcm,hel,hget,_,_⟩
         · refine ⟨[.l []],rfl,aT.one (t:= .sl es) (d:= .l []) ?_⟩
           unfold eF
           exact ⟨none,0,rfl,⟨Nat.le_refl _,Nat.zero_le _⟩, .inl rfl⟩
         · have hels: ∀ i,i<len→ ∃ (ds:List D) (ys:List Value),aT w (Ze w) es ds ys∧ys.length=P.cellsOf e∧ ∀ j,j<P.cellsOf e→w.cell? ((a.add (i*P.cellsOf e)).add j)=ys[j]? :=by
            intro i hi
            have h1:=hget i hi
            have h2:elems[i]? =some (elems[i]'(by omega)):=List.getElem?_eq_getElem (by omega)
            rw [h2,Option.bind_eq_some_iff] at h1
            obtain ⟨ys,h3,h4⟩:=h1
            obtain ⟨_,h5,h6⟩:=World.cells?_some h3
            obtain ⟨ds,_,h7⟩:=ih hes h4
            exact ⟨ds,ys,h7,h5,h6⟩
           let g:Nat→List D:=fun i=> if h:i<len then (hels i h).choose else []
           have hg: ∀ i (h:i<len),g i=(hels i h).choose:=fun i h=> dif_pos h
           refine ⟨[.l ((List.range len).map g)],rfl,aT.one ?_⟩
           unfold eF
           refine ⟨some a,cap,by simp [D.wR],⟨by simpa [D.wR] using hlc,hcm⟩,?_⟩
           rcases Nat.eq_zero_or_pos len with h0 | h0
           · left; subst h0; rfl
           · right
             have hspot: ∃ b o,a=⟨b,o,none⟩∧b<w.heap.size:=by
              obtain ⟨ds,ys,_,h5,h6⟩:=hels 0 h0
              have h7:=h6 0 hz0
              rw [List.getElem?_eq_getElem (by omega)] at h7
              obtain ⟨b,o,s⟩:=a
              simp only [Nat.zero_mul,Addr.add] at h7
              unfold World.cell? at h7
              split at h7
              · rename_i hw
                cases s with
                | none=> exact ⟨b,o,rfl,(Array.getElem?_eq_some_iff.1 hw).1⟩
                | some s=> simp at h7
              · cases h7
             obtain ⟨b,o,rfl,hlt⟩:=hspot
             refine ⟨b,o,rfl,hlt,fun i d hi=> ?_⟩
             have hi:((List.range len).map g)[i]? =some d:=hi
             have hil:i<len:=by
              have:=(List.getElem?_eq_some_iff.1 hi).1
              simpa using this
             rw [List.getElem?_map,List.getElem?_range hil] at hi
             simp only [Option.map_some,Option.some.injEq] at hi
             subst hi
             rw [hg i hil]
             obtain ⟨ys,h1,h2,h3⟩:=(hels i hil).choose_spec
             refine ⟨ys,h1,fun j v hj=> ?_⟩
             have hjl:j<P.cellsOf e:=by
              have:=(List.getElem?_eq_some_iff.1 hj).1
              omega
             rw [← hj,← h3 j hjl,hz,addr_add,addr_add]
       · cases h
     · cases h
   · rename_i n e hu
     split at h
     · rename_i k hk
       split at h
       · rename_i hd
         obtain ⟨h1,h2,h0⟩:=of_decide_eq_true hd
         obtain ⟨xs,m,rfl,_,hl,hxl,hget⟩:=DataW.trod_array hu hx
         rw [h2] at hl
         have hall: ∀ v∈cs, ∃ n,v= .int k n∧jm k n=true:=by
          intro v hv
          obtain ⟨i,hi⟩:=List.mem_iff_getElem?.1 hv
          have hil:i<n:=by
           have:=(List.getElem?_eq_some_iff.1 hi).1
           omega
          have h3:=hget i hil
          rw [h1,Nat.mul_one,List.getElem?_eq_getElem (by omega)] at h3
          obtain ⟨z,hz,_,hw⟩:=DataW.trod_int hk h3
          have:(List.take 1 (List.drop i cs))[0]? =some v:=by simpa using hi
          rw [hz] at this
          simp only [List.getElem?_cons_zero,Option.some.injEq] at this
          exact ⟨z,this.symm,VG hw⟩
         obtain ⟨l,rfl,hll,hin⟩:=VA cs hall
         have hln:l.length=n:=by rw [hll]; exact hl
         split at h
         · cases h
           refine ⟨l.map .i,by simp [hln],?_⟩
           rw [← hln]
           exact aT.ints l hin
         · rename_i hs
           cases h
           cases l with
           | nil=> simp at hln; omega
           | cons a l=>
             obtain ⟨d,hd⟩:=SS (w:=w) hs a l hin
             have:n=l.length+1:=by simpa using hln.symm
             rw [this]
             exact ⟨[d],rfl,hd⟩
       · cases h
     · split at h
       · rename_i ts' hts
         split at h
         · rename_i hd
           cases h
           obtain ⟨h1,h2⟩:=of_decide_eq_true hd
           obtain ⟨xs,m,rfl,_,hl,hxl,hget⟩:=DataW.trod_array hu hx
           refine aT.rep n cs (by rw [hl,h2]) (fun i hi=> ?_)
           have h3:=hget i hi
           rw [List.getElem?_eq_getElem (by omega)] at h3
           exact ih hts h3
         · cases h
       · cases h
   · rename_i fs hu
     obtain ⟨xs,n,rfl,_,hl,hxl,hget⟩:=DataW.trod_struct hu hx
     have:=NP (P:=P) (w:=w) hl fs.toList 0 h (fun y hy ts hts=> by
      obtain ⟨i,hi⟩:=List.mem_iff_getElem?.1 hy
      have hi':fs[i]? =some y:=by rw [← Array.getElem?_toList]; exact hi
      have h3:=hget i y hi'
      have hil:i<xs.length:=by
       have:=(List.getElem?_eq_some_iff.1 hi).1
       rw [hxl]; simpa using this
      rw [List.getElem?_eq_getElem hil] at h3
      exact ih hts h3)
     simpa using this
   · cases h

theorem Ke {r:Reach} {t:TypeId} {ts:List LT} {v:Value} {d:DataW H} {p:List MemPlace} {b0:Nat} (ha:VB P t=true) (hty:tyD P 20 t=some ts) (hok:Value.okWide P w r b0 t v)
 (h:DataW.Trod enc P w base sp held t v d p): ∃ ds:List D,aQ (oH w) (.ag (.ps (iX ts ds))) v:=by
 obtain ⟨cs,rfl,_,_⟩:=Jd ha hok
 obtain ⟨fuel,h⟩:=h
 obtain ⟨ds,_,h1⟩:=J4 20 hty h
 exact ⟨ds,cs.toList,by simp,aX.iH.2 h1⟩

end
end Vx
