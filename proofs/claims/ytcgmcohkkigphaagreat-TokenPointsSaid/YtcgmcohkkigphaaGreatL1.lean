/-
  Contracts of the program's lowest functions: sums and products of words.
-/
import Derived.Test.YtcgmcohkkigphaaGreatX3
import Derived.Test.YtcgmcohkkigphaaGreatU1
import Derived.Test.YtcgmcohkkigphaaGreatProg
set_option maxRecDepth 100000
namespace Go.Proofs.YtcgmcohkkigphaaGreat
open Go Vx Go.RowKit

theorem mixed:Tryz.prog.follows .mixedOrders=true:=by kernel_rfl

abbrev Au:Ty:= .one (.int .u64)
abbrev yx:Ty:= .ag [.pk .u64 64 4]
abbrev j6 (n:Int):V:= .u (.one (.int .u64 n))
abbrev kC (n:Nat):V:= .pk .u64 64 4 n

noncomputable abbrev dx (l:List (FuncId × aj)):Cx:={ P:=Tryz.prog,ro:=0,tab:=aK l }
noncomputable abbrev iG (l:List (FuncId × aj)):Cx:={ P:=Tryz.prog,ro:=0,sy:=true,tab:=aK l }
theorem dB {l:List (FuncId × aj)} (h:aD Tryz.prog (aK l)):Ok (iG l):=⟨h,fun _ _ h=> (by cases h),fun _ _ _ _ _ h=> (by cases h),mixed⟩

theorem bS {l:List (FuncId × aj)} (h:aD Tryz.prog (aK l)):Ok (dx l):=⟨h,fun _ _ h=> (by cases h),fun _ _ _ _ _ h=> (by cases h),mixed⟩

noncomputable abbrev agd (l:List (FuncId × aj)) (il:List (FuncId × Func)):Cx:={ P:=Tryz.prog,ro:=0,il:=gY il,tab:=aK l }
theorem ab1 {l:List (FuncId × aj)} {il:List (FuncId × Func)} (h:aD Tryz.prog (aK l)) (hi:bf Tryz.prog (gY il)):Ok (agd l il):=⟨h,hi,fun _ _ _ _ _ h=> (by cases h),mixed⟩

noncomputable abbrev bJ (sy rw:Bool) (l:List (FuncId × aj)) (il:List (FuncId × Func)) (js:List (FuncId × List V × Hp × V × Hp)):Cx:={ P:=Tryz.prog,ro:=0,sy:=sy,rw:=rw,il:=gY il,js:=zm js,tab:=aK l }
theorem dM {sy rw:Bool} {l:List (FuncId × aj)} {il:List (FuncId × Func)} {js:List (FuncId × List V × Hp × V × Hp)} (h:aD Tryz.prog (aK l)) (hi:bf Tryz.prog (gY il)) (hj:dO Tryz.prog 0 (zm js)):Ok (bJ sy rw l il js):=⟨h,hi,hj,mixed⟩
noncomputable abbrev rW (sy rw:Bool) (l:List (FuncId × aj)) (il:List (FuncId × Func)) (js:List (FuncId × List V × Hp × V × Hp)) (ex:List FuncId):Cx:={ P:=Tryz.prog,ro:=0,sy:=sy,rw:=rw,il:=gY il,js:=zm js,ex:=fun f=> ex.any (Nat.beq f),tab:=aK l }
theorem I5 {sy rw:Bool} {l:List (FuncId × aj)} {il:List (FuncId × Func)} {js:List (FuncId × List V × Hp × V × Hp)} {ex:List FuncId} (h:aD Tryz.prog (aK l)) (hi:bf Tryz.prog (gY il)) (hj:dO Tryz.prog 0 (zm js)):Ok (rW sy rw l il js ex):=⟨h,hi,hj,mixed⟩


def WC:List D→Option (List Bool × V)
 | [.i x, .i y, .i c]=> some ([decide (c≤1)], .dX [.one (.int .u64 ((x+y+c) % 18446744073709551616)), .one (.int .u64 ((x+y+c) / 18446744073709551616))])
 | _=> none
def Gc:aj:=spec [Au,Au,Au] WC

theorem nD {n:Int} (h:Ti (j6 n)):0≤n∧n<18446744073709551616:=by
 have:jm .u64 n=true:=h
 simpa [jm] using this

theorem zD:bg Tryz.prog 178 Gc:=by
 refine IV Tryz.func178 (by kernel_rfl) (by kernel_rfl) (by kernel_rfl) (e:=add64Entry) (by kernel_rfl) ?_
 intro ds chk v vs hF ht he hr σ w vals hv
 unfold WC at hF
 split at hF
 · rename_i x y c
   cases hF
   have hvs:vs= [j6 x,j6 y,j6 c]:=by
    simp only [bq,bn,bF,bD,Option.some.injEq] at he; exact he.symm
   subst hvs
   obtain ⟨h1,h2,h3,_⟩:=hr
   have h1:=nD h1
   have h2:=nD h2
   have h3:=nD h3
   have hc:c≤1:=of_decide_eq_true (ht _ (by simp))
   cases hv with
   | cons a1 hv=> cases hv with
     | cons a2 hv=> cases hv with
       | cons a3 hv=>
         cases hv
         obtain ⟨rfl,_⟩:=nH a1
         obtain ⟨rfl,_⟩:=nH a2
         obtain ⟨rfl,_⟩:=nH a3
         refine ⟨_,run_add64 x y c h1.1 h2.1 h3.1 hc w,rfl,?_⟩
         refine ⟨_,rfl, .cons ⟨rfl,rfl,?_⟩ (.cons ⟨rfl,rfl,?_⟩ .nil)⟩
         · simp [jm]; omega
         · simp [jm]; omega
 · cases hF

def Xy:List D→Option (List Bool × V)
 | [.i x, .i y, .i c]=> some ([decide (c≤1)], .dX [.one (.int .u64 ((x - y - c) % 18446744073709551616)), .one (.int .u64 (if x<y+c then 1 else 0))])
 | _=> none
def Tv:aj:=spec [Au,Au,Au] Xy

def sub64Entry:Array Value→Sem Value:=fun args=> do
 let (x, y, b) ← Extern.MathBitsCarry.three "Sub64" args
 pure (Extern.MathBitsCarry.pair ((x+Extern.MathBitsCarry.m64 - y - b) % Extern.MathBitsCarry.m64) (if x<y+b then 1 else 0))

theorem run_sub64 {P:Program} (x y c:Int) (hx:0≤x) (hy:0≤y) (hy':y<18446744073709551616) (hc0:0≤c) (hc:c≤1) (w:World):
 (sub64Entry #[.int .u64 x, .int .u64 y, .int .u64 c]).run P w=
  .ok (.tuple #[.int .u64 ((x - y - c) % 18446744073709551616), .int .u64 (if x<y+c then 1 else 0)]) w:=by
 have key: ∀ k:Nat,k≤1→(sub64Entry #[.int .u64 x, .int .u64 y, .int .u64 (k:Int)]).run P w=
  .ok (Extern.MathBitsCarry.pair ((x.toNat+Extern.MathBitsCarry.m64 - y.toNat - k) % Extern.MathBitsCarry.m64) (if x.toNat<y.toNat+k then 1 else 0)) w:=by
  intro k hk
  have:k=0∨k=1:=by omega
  rcases this with rfl | rfl<;> rfl
 obtain ⟨k,rfl⟩:=Int.eq_ofNat_of_zero_le hc0
 rw [key k (by omega)]
 obtain ⟨X,rfl⟩:=Int.eq_ofNat_of_zero_le hx
 obtain ⟨Y,rfl⟩:=Int.eq_ofNat_of_zero_le hy
 simp only [Extern.MathBitsCarry.pair,Extern.MathBitsCarry.m64,Int.toNat_natCast]
 have e1:(Int.ofNat ((X+2^64 - Y - k) % 2^64))=((X:Int) - Y - k) % 18446744073709551616:=by
  show (((X+2^64 - Y - k) % 2^64:Nat):Int)=_
  have h2:(2:Nat)^64=18446744073709551616:=by decide
  rw [h2]
  omega
 have e2:Int.ofNat (if X<Y+k then 1 else 0)=if (X:Int)<Y+k then 1 else 0:=by
  by_cases h:X<Y+k
  · rw [if_pos h,if_pos (by omega)]; rfl
  · rw [if_neg h,if_neg (by omega)]; rfl
 rw [e1,e2]

theorem OM:bg Tryz.prog 199 Tv:=by
 refine IV Tryz.func199 (by kernel_rfl) (by kernel_rfl) (by kernel_rfl) (e:=sub64Entry) (by kernel_rfl) ?_
 intro ds chk v vs hF ht he hr σ w vals hv
 unfold Xy at hF
 split at hF
 · rename_i x y c
   cases hF
   have hvs:vs= [j6 x,j6 y,j6 c]:=by
    simp only [bq,bn,bF,bD,Option.some.injEq] at he; exact he.symm
   subst hvs
   obtain ⟨h1,h2,h3,_⟩:=hr
   have h1:=nD h1
   have h2:=nD h2
   have h3:=nD h3
   have hc:c≤1:=of_decide_eq_true (ht _ (by simp))
   cases hv with
   | cons a1 hv=> cases hv with
     | cons a2 hv=> cases hv with
       | cons a3 hv=>
         cases hv
         obtain ⟨rfl,_⟩:=nH a1
         obtain ⟨rfl,_⟩:=nH a2
         obtain ⟨rfl,_⟩:=nH a3
         refine ⟨_,run_sub64 x y c h1.1 h2.1 h2.2 h3.1 hc w,rfl,?_⟩
         refine ⟨_,rfl, .cons ⟨rfl,rfl,?_⟩ (.cons ⟨rfl,rfl,?_⟩ .nil)⟩
         · simp [jm]; omega
         · simp only [jm]; split<;> rfl
 · cases hF
end Go.Proofs.YtcgmcohkkigphaaGreat

/-
  Contracts of the program's lowest functions: words.
-/
namespace Go.Proofs.YtcgmcohkkigphaaGreat
open Go Vx Go.RowKit

theorem aL.dec {t:Ty} {v v':V} {ds:List D} (h:YQ t v=some ds) (he:bn t ds=some (v',[])):aL v v':=by
 obtain ⟨v2,h1,_,h3⟩:=Ej h
 have:=h1 []
 rw [List.append_nil,he] at this
 cases this
 exact h3

def gN (u u':U):Prop:= ∀ σ x,mP σ u x→mP σ u' x
theorem gN.refl (u:U):gN u u:=fun _ _ h=> h
theorem gN.of {u u':U} (h:aL (.u u) (.u u')):gN u u':=fun σ x hx=> h σ x hx

theorem aL.tC {a b a' b':U} (h1:gN a a') (h2:gN b b'):aL (.dX [a,b]) (.dX [a',b']):=by
 rintro σ x ⟨xs,e,hall⟩
 refine ⟨xs,e,?_⟩
 cases hall with
 | cons ha hl=> cases hl with
   | cons hb hl=> cases hl; exact .cons (h1 _ _ ha) (.cons (h2 _ _ hb) .nil)

theorem nV {c0 c1 c2 c3:Int} {n:Nat} (h:c0.toNat+2^64*(c1.toNat+2^64*(c2.toNat+2^64*(c3.toNat+2^64*0)))=n):
 aL (.ag (.ps [.int .u64 c0, .int .u64 c1, .int .u64 c2, .int .u64 c3])) (kC n):=by
 refine aL.dec (t:=yx) (ds:= [.n n]) ?_ rfl
 rw [← h]
 rfl

theorem gM {n:Nat} (h:n<115792089237316195423570985008687907853269984665640564039457584007913129639936):
 n=digit 64 n 0+18446744073709551616*digit 64 n 1+340282366920938463463374607431768211456*digit 64 n 2+6277101735386680763835789423207666416102355444464034512896*digit 64 n 3∧
 digit 64 n 0<18446744073709551616∧digit 64 n 1<18446744073709551616∧digit 64 n 2<18446744073709551616∧digit 64 n 3<18446744073709551616:=by
 simp only [digit,Nat.reduceMul,Nat.reducePow,Nat.div_one]
 omega

theorem jF {n:Nat} (h:Ti (kC n)):n<115792089237316195423570985008687907853269984665640564039457584007913129639936:=by
 have:=h.1
 simpa [agX] using this

def ab2 (x y:Int):Int:=
 ak .u64 (ak .u64 (ak .u64 (x / 4294967296*(y / 4294967296))+
  ak .u64 (ak .u64 (x / 4294967296*((y.toNat &&& 4294967295:Nat):Int))+ak .u64 (((x.toNat &&& 4294967295:Nat):Int)*((y.toNat &&& 4294967295:Nat):Int)) / 4294967296) / 4294967296)+
  ak .u64 ((((ak .u64 (ak .u64 (x / 4294967296*((y.toNat &&& 4294967295:Nat):Int))+ak .u64 (((x.toNat &&& 4294967295:Nat):Int)*((y.toNat &&& 4294967295:Nat):Int)) / 4294967296)).toNat &&& 4294967295:Nat):Int)+
   ak .u64 (((x.toNat &&& 4294967295:Nat):Int)*(y / 4294967296))) / 4294967296)

theorem ab3 {x y:Int} (hx:0≤x) (hx':x<18446744073709551616) (hy:0≤y) (hy':y<18446744073709551616):ab2 x y=x*y / 18446744073709551616:=by
 have hand: ∀ n:Nat,n &&& 4294967295=n % 4294967296:=fun n=> Nat.and_two_pow_sub_one_eq_mod n 32
 have hmod: ∀ z:Int,0≤z→((z.toNat % 4294967296:Nat):Int)=z % 4294967296:=by intro z hz; omega
 unfold ab2
 simp only [ak,hand]
 rw [hmod x hx,hmod y hy]
 obtain ⟨x1,hx1⟩: ∃ a,a=x / 4294967296:=⟨_,rfl⟩
 obtain ⟨x0,hx0⟩: ∃ a,a=x % 4294967296:=⟨_,rfl⟩
 obtain ⟨y1,hy1⟩: ∃ a,a=y / 4294967296:=⟨_,rfl⟩
 obtain ⟨y0,hy0⟩: ∃ a,a=y % 4294967296:=⟨_,rfl⟩
 rw [← hx1,← hx0,← hy1,← hy0]
 have bx1:0≤x1∧x1≤4294967295:=by omega
 have bx0:0≤x0∧x0≤4294967295:=by omega
 have by1:0≤y1∧y1≤4294967295:=by omega
 have by0:0≤y0∧y0≤4294967295:=by omega
 have prod: ∀ a b:Int,0≤a∧a≤4294967295→0≤b∧b≤4294967295→0≤a*b∧a*b≤18446744065119617025:=by
  intro a b ha hb
  refine ⟨Int.mul_nonneg ha.1 hb.1,?_⟩
  calc a*b≤4294967295*b:=Int.mul_le_mul_of_nonneg_right ha.2 hb.1
   _≤4294967295*4294967295:=Int.mul_le_mul_of_nonneg_left hb.2 (by omega)
 have p11:=prod x1 y1 bx1 by1
 have p10:=prod x1 y0 bx1 by0
 have p01:=prod x0 y1 bx0 by1
 have p00:=prod x0 y0 bx0 by0
 have hxy:x*y=x1*y1*18446744073709551616+(x1*y0+x0*y1)*4294967296+x0*y0:=by
  have e1:x=x1*4294967296+x0:=by omega
  have e2:y=y1*4294967296+y0:=by omega
  rw [e1,e2]
  grind
 rw [hxy]
 generalize x1*y1=a at*
 generalize x1*y0=b at*
 generalize x0*y1=c at*
 generalize x0*y0=d at*
 have t0:(b % 18446744073709551616+d % 18446744073709551616 / 4294967296) % 18446744073709551616=b+d / 4294967296:=by omega
 rw [t0,hmod _ (by omega)]
 omega

def Xe:List D→Option (List Bool × V)
 | [.i x, .i y]=> some ([], .dX [.one (.int .u64 (x*y / 18446744073709551616)), .one (.int .u64 (x*y % 18446744073709551616))])
 | _=> none
def Tp:aj:=spec [Au,Au] Xe

theorem OG:bg Tryz.prog 177 Tp:=by
 refine az (cx:=dx []) (c:=af Tryz.f177) Tryz.func177 (by kernel_rfl) (by kernel_rfl) rfl ?_
 intro ds chk v vs hF ht he hr base
 unfold Xe at hF
 split at hF
 · rename_i x y
   cases hF
   have hvs:vs= [j6 x,j6 y]:=by simp only [bq,bn,bF,bD,Option.some.injEq] at he; exact he.symm
   subst hvs
   obtain ⟨h1,h2,_⟩:=hr
   have h1:=nD h1
   have h2:=nD h2
   refine ek (bS aD.nil) (n:=200) (bs0:= []) (v0:= .dX [.one (.int .u64 (ab2 x y)), .one (.int .u64 (ak .u64 (x*y)))]) (by kernel_rfl) ?_ trivial
   rw [ab3 h1.1 h1.2 h2.1 h2.2]
   exact aL.refl _
 · cases hF

noncomputable def aed:List D→Option (List Bool × V)
 | [.n a, .n b]=> some ([], .dX [.ag (.ps [.pk .u64 64 4 (FP a b)]), .one (.int .u64 (zO a b:Int))])
 | _=> none
noncomputable def Xl:aj:=spec [yx,yx] aed

theorem aa7 {a b:Nat} {a0 a1 a2 a3 b0 b1 b2 b3:Nat}
 (ea:a=a0+18446744073709551616*a1+340282366920938463463374607431768211456*a2+6277101735386680763835789423207666416102355444464034512896*a3)
 (eb:b=b0+18446744073709551616*b1+340282366920938463463374607431768211456*b2+6277101735386680763835789423207666416102355444464034512896*b3) {s0 s1 s2 s3:Int}
 (h0:s0=(a0:Int)+(b0:Int)+0) (h1:s1=(a1:Int)+(b1:Int)+s0 / 18446744073709551616)
 (h2:s2=(a2:Int)+(b2:Int)+s1 / 18446744073709551616) (h3:s3=(a3:Int)+(b3:Int)+s2 / 18446744073709551616):
 (s0 % 18446744073709551616).toNat+2^64*((s1 % 18446744073709551616).toNat+2^64*((s2 % 18446744073709551616).toNat+2^64*((s3 % 18446744073709551616).toNat+2^64*0)))=
  (a+b) % 115792089237316195423570985008687907853269984665640564039457584007913129639936∧
 s3 / 18446744073709551616=(((a+b) / 115792089237316195423570985008687907853269984665640564039457584007913129639936:Nat):Int):=by
 obtain ⟨q0,hq0⟩: ∃ q,q=s0 / 18446744073709551616:=⟨_,rfl⟩
 obtain ⟨q1,hq1⟩: ∃ q,q=s1 / 18446744073709551616:=⟨_,rfl⟩
 obtain ⟨q2,hq2⟩: ∃ q,q=s2 / 18446744073709551616:=⟨_,rfl⟩
 obtain ⟨q3,hq3⟩: ∃ q,q=s3 / 18446744073709551616:=⟨_,rfl⟩
 obtain ⟨r0,hr0⟩: ∃ q,q=s0 % 18446744073709551616:=⟨_,rfl⟩
 obtain ⟨r1,hr1⟩: ∃ q,q=s1 % 18446744073709551616:=⟨_,rfl⟩
 obtain ⟨r2,hr2⟩: ∃ q,q=s2 % 18446744073709551616:=⟨_,rfl⟩
 obtain ⟨r3,hr3⟩: ∃ q,q=s3 % 18446744073709551616:=⟨_,rfl⟩
 have d0:s0=18446744073709551616*q0+r0∧0≤r0∧r0<18446744073709551616:=by omega
 have d1:s1=18446744073709551616*q1+r1∧0≤r1∧r1<18446744073709551616:=by omega
 have d2:s2=18446744073709551616*q2+r2∧0≤r2∧r2<18446744073709551616:=by omega
 have d3:s3=18446744073709551616*q3+r3∧0≤r3∧r3<18446744073709551616:=by omega
 rw [← hq0] at h1; rw [← hq1] at h2; rw [← hq2] at h3; rw [← hq3,← hr0,← hr1,← hr2,← hr3]
 have q3n:0≤q3:=by omega
 clear hq0 hq1 hq2 hq3 hr0 hr1 hr2 hr3
 obtain ⟨R0,rfl⟩:=Int.eq_ofNat_of_zero_le d0.2.1
 obtain ⟨R1,rfl⟩:=Int.eq_ofNat_of_zero_le d1.2.1
 obtain ⟨R2,rfl⟩:=Int.eq_ofNat_of_zero_le d2.2.1
 obtain ⟨R3,rfl⟩:=Int.eq_ofNat_of_zero_le d3.2.1
 obtain ⟨Q3,rfl⟩:=Int.eq_ofNat_of_zero_le q3n
 have hsum:a+b=R0+18446744073709551616*R1+340282366920938463463374607431768211456*R2+6277101735386680763835789423207666416102355444464034512896*R3+
  115792089237316195423570985008687907853269984665640564039457584007913129639936*Q3:=by omega
 have hlt:R0+18446744073709551616*R1+340282366920938463463374607431768211456*R2+6277101735386680763835789423207666416102355444464034512896*R3<
  115792089237316195423570985008687907853269984665640564039457584007913129639936:=by omega
 simp only [Int.toNat_natCast,Nat.reducePow]
 refine ⟨?_,?_⟩
 · rw [hsum,Nat.add_mul_mod_self_left,Nat.mod_eq_of_lt hlt]
   omega
 · rw [hsum,Nat.add_mul_div_left _ _ (by omega),Nat.div_eq_of_lt hlt]
   omega

theorem LH:bg Tryz.prog 193 Xl:=by
 refine az (cx:=dx [(178,Gc)]) (c:=af Tryz.f193) Tryz.func193 (by kernel_rfl) (by kernel_rfl) rfl ?_
 intro ds chk v vs hF ht he hr base
 unfold aed at hF
 split at hF
 · rename_i a b
   cases hF
   have hvs:vs= [kC a,kC b]:=by simp only [bq,bn,bF,bD,Option.some.injEq] at he; exact he.symm
   subst hvs
   obtain ⟨h1,h2,_⟩:=hr
   obtain ⟨ea,a0,a1,a2,a3⟩:=gM (jF h1)
   obtain ⟨eb,b0,b1,b2,b3⟩:=gM (jF h2)
   obtain ⟨s0,hs0⟩: ∃ s:Int,s=(digit 64 a 0:Int)+(digit 64 b 0:Int)+0:=⟨_,rfl⟩
   obtain ⟨s1,hs1⟩: ∃ s:Int,s=(digit 64 a 1:Int)+(digit 64 b 1:Int)+s0 / 18446744073709551616:=⟨_,rfl⟩
   obtain ⟨s2,hs2⟩: ∃ s:Int,s=(digit 64 a 2:Int)+(digit 64 b 2:Int)+s1 / 18446744073709551616:=⟨_,rfl⟩
   obtain ⟨s3,hs3⟩: ∃ s:Int,s=(digit 64 a 3:Int)+(digit 64 b 3:Int)+s2 / 18446744073709551616:=⟨_,rfl⟩
   have hc:allT [decide (s0 / 18446744073709551616≤1),decide (s1 / 18446744073709551616≤1),decide (s2 / 18446744073709551616≤1)]:=by
    intro b hb
    simp only [List.mem_cons,List.not_mem_nil,or_false] at hb
    rcases hb with rfl | rfl | rfl<;> (rw [decide_eq_true_iff]; omega)
   obtain ⟨m1,m2⟩:=aa7 ea eb hs0 hs1 hs2 hs3
   have hent:=aL.tC (gN.of (nV m1)) (gN.refl (.one (.int .u64 (s3 / 18446744073709551616))))
   rw [m2,← uN,← qF] at hent
   refine ek (bS (.cons zD .nil)) (n:=200) (bs0:= []) (v0:= .dX [.ag (.ps [.int .u64 (s0 % 18446744073709551616), .int .u64 (s1 % 18446744073709551616), .int .u64 (s2 % 18446744073709551616), .int .u64 (s3 % 18446744073709551616)]),
    .one (.int .u64 (s3 / 18446744073709551616))]) (.trans (?_:_=aS [decide (s0 / 18446744073709551616≤1),decide (s1 / 18446744073709551616≤1),decide (s2 / 18446744073709551616≤1)] _) (ai hc)) (by rw [m2,← qF]; exact hent) trivial
   subst hs3 hs2 hs1 hs0
   kernel_rfl
 · cases hF
end Go.Proofs.YtcgmcohkkigphaaGreat

/-
  Contracts of the program's field of 2^255 - 19: sums.
-/
namespace Go.Proofs.YtcgmcohkkigphaaGreat
open Go Vx Go.RowKit

abbrev GU:Ty:= .one (.int .i64)
abbrev al2:Ty:= .one .bool
abbrev aN (n:Int):V:= .u (.one (.int .i64 n))
abbrev bI (b:Bool):V:= .u (.one (.bool b))

theorem UN {a b:Nat} {a0 a1 a2 a3 b0 b1 b2 b3:Nat}
 (ea:a=a0+18446744073709551616*a1+340282366920938463463374607431768211456*a2+6277101735386680763835789423207666416102355444464034512896*a3)
 (eb:b=b0+18446744073709551616*b1+340282366920938463463374607431768211456*b2+6277101735386680763835789423207666416102355444464034512896*b3)
 (ha:a0<18446744073709551616∧a1<18446744073709551616∧a2<18446744073709551616∧a3<18446744073709551616)
 (hb:b0<18446744073709551616∧b1<18446744073709551616∧b2<18446744073709551616∧b3<18446744073709551616) {c1 c2 c3 c4:Int}
 (h1:c1=if (a0:Int)<(b0:Int)+0 then 1 else 0) (h2:c2=if (a1:Int)<(b1:Int)+c1 then 1 else 0)
 (h3:c3=if (a2:Int)<(b2:Int)+c2 then 1 else 0) (h4:c4=if (a3:Int)<(b3:Int)+c3 then 1 else 0):
 (((a0:Int) - b0 - 0) % 18446744073709551616).toNat+2^64*((((a1:Int) - b1 - c1) % 18446744073709551616).toNat+2^64*((((a2:Int) - b2 - c2) % 18446744073709551616).toNat+
   2^64*((((a3:Int) - b3 - c3) % 18446744073709551616).toNat+2^64*0)))=(a+115792089237316195423570985008687907853269984665640564039457584007913129639936 - b) % 115792089237316195423570985008687907853269984665640564039457584007913129639936∧
 c4=bif decide (a<b) then 1 else 0:=by
 have k1:c1=0∨c1=1:=by rw [h1]; split<;> omega
 have k2:c2=0∨c2=1:=by rw [h2]; split<;> omega
 have k3:c3=0∨c3=1:=by rw [h3]; split<;> omega
 have k4:c4=0∨c4=1:=by rw [h4]; split<;> omega
 have step: ∀ (x y:Nat) (c d:Int),x<18446744073709551616→y<18446744073709551616→(c=0∨c=1)→d=(if (x:Int)<(y:Int)+c then 1 else 0)→
  ∃ r:Nat,((x:Int) - y - c) % 18446744073709551616=r∧(x:Int) - y - c+18446744073709551616*d=r∧r<18446744073709551616:=by
  intro x y c d hx hy hc hd
  refine ⟨(((x:Int) - y - c) % 18446744073709551616).toNat,by omega,?_,by omega⟩
  rw [hd]
  split<;> omega
 obtain ⟨r0,e0,f0,g0⟩:=step a0 b0 0 c1 ha.1 hb.1 (.inl rfl) h1
 obtain ⟨r1,e1,f1,g1⟩:=step a1 b1 c1 c2 ha.2.1 hb.2.1 k1 h2
 obtain ⟨r2,e2,f2,g2⟩:=step a2 b2 c2 c3 ha.2.2.1 hb.2.2.1 k2 h3
 obtain ⟨r3,e3,f3,g3⟩:=step a3 b3 c3 c4 ha.2.2.2 hb.2.2.2 k3 h4
 rw [e0,e1,e2,e3]
 simp only [Int.toNat_natCast,Nat.reducePow]
 clear e0 e1 e2 e3 h1 h2 h3 h4 k1 k2 k3 step
 have hlt:r0+18446744073709551616*(r1+18446744073709551616*(r2+18446744073709551616*(r3+18446744073709551616*0)))<115792089237316195423570985008687907853269984665640564039457584007913129639936:=by omega
 have hbl:b<115792089237316195423570985008687907853269984665640564039457584007913129639936:=by clear f0 f1 f2 f3 k4; omega
 have hal:a<115792089237316195423570985008687907853269984665640564039457584007913129639936:=by clear f0 f1 f2 f3 k4; omega
 clear ha hb
 have hsum:(a:Int) - b+115792089237316195423570985008687907853269984665640564039457584007913129639936*c4=((r0+18446744073709551616*(r1+18446744073709551616*(r2+18446744073709551616*(r3+18446744073709551616*0))):Nat):Int):=by omega
 clear f0 f1 f2 f3 ea eb
 generalize r0+18446744073709551616*(r1+18446744073709551616*(r2+18446744073709551616*(r3+18446744073709551616*0)))=R at*
 rcases k4 with rfl | rfl
 · have h: ¬ a<b:=by omega
   rw [decide_eq_false h]
   refine ⟨?_,rfl⟩
   have:a+115792089237316195423570985008687907853269984665640564039457584007913129639936 - b=R+115792089237316195423570985008687907853269984665640564039457584007913129639936:=by omega
   rw [this,Nat.add_mod_right,Nat.mod_eq_of_lt hlt]
 · have h:a<b:=by omega
   rw [decide_eq_true h]
   refine ⟨?_,rfl⟩
   have:a+115792089237316195423570985008687907853269984665640564039457584007913129639936 - b=R:=by omega
   rw [this,Nat.mod_eq_of_lt hlt]

noncomputable def Xd:List D→Option (List Bool × V)
 | [.n a, .n b]=> some ([], .dX [.ag (.ps [.pk .u64 64 4 (lI a b)]), .one (.int .u64 (bif jW a b then 1 else 0))])
 | _=> none
noncomputable def L8:aj:=spec [yx,yx] Xd
noncomputable abbrev Qj:List (FuncId × aj):= [(199,Tv)]
theorem TW:aD Tryz.prog (aK Qj):=(.cons OM .nil)
theorem FJ:bg Tryz.prog 198 L8:=by
 refine az (cx:=dx Qj) (c:=af Tryz.f198) Tryz.func198 (by kernel_rfl) (by kernel_rfl) rfl ?_
 intro ds chk v vs hF ht he hr base
 unfold Xd at hF
 split at hF
 · rename_i a b
   cases hF
   have hvs:vs= [kC a,kC b]:=by simp only [bq,bn,bF,bD,Option.some.injEq] at he; exact he.symm
   subst hvs
   obtain ⟨h1,h2,_⟩:=hr
   obtain ⟨ea,a0,a1,a2,a3⟩:=gM (jF h1)
   obtain ⟨eb,b0,b1,b2,b3⟩:=gM (jF h2)
   obtain ⟨c1,hc1⟩: ∃ c:Int,c=if (digit 64 a 0:Int)<(digit 64 b 0:Int)+0 then 1 else 0:=⟨_,rfl⟩
   obtain ⟨c2,hc2⟩: ∃ c:Int,c=if (digit 64 a 1:Int)<(digit 64 b 1:Int)+c1 then 1 else 0:=⟨_,rfl⟩
   obtain ⟨c3,hc3⟩: ∃ c:Int,c=if (digit 64 a 2:Int)<(digit 64 b 2:Int)+c2 then 1 else 0:=⟨_,rfl⟩
   obtain ⟨c4,hc4⟩: ∃ c:Int,c=if (digit 64 a 3:Int)<(digit 64 b 3:Int)+c3 then 1 else 0:=⟨_,rfl⟩
   have hc:allT [decide (c1≤1),decide (c2≤1),decide (c3≤1)]:=by
    intro b hb
    simp only [List.mem_cons,List.not_mem_nil,or_false] at hb
    rcases hb with rfl | rfl | rfl<;> rw [decide_eq_true_iff]
    · rw [hc1]; split<;> omega
    · rw [hc2]; split<;> omega
    · rw [hc3]; split<;> omega
   obtain ⟨m1,m2⟩:=UN ea eb ⟨a0,a1,a2,a3⟩ ⟨b0,b1,b2,b3⟩ hc1 hc2 hc3 hc4
   have hent:=aL.tC (gN.of (nV m1)) (gN.refl (.one (.int .u64 c4)))
   rw [m2,← lJ,← kv] at hent
   refine ek (bS TW) (n:=200) (bs0:= []) (v0:= .dX [.ag (.ps [.int .u64 (((digit 64 a 0:Int) - digit 64 b 0 - 0) % 18446744073709551616), .int .u64 (((digit 64 a 1:Int) - digit 64 b 1 - c1) % 18446744073709551616),
    .int .u64 (((digit 64 a 2:Int) - digit 64 b 2 - c2) % 18446744073709551616), .int .u64 (((digit 64 a 3:Int) - digit 64 b 3 - c3) % 18446744073709551616)]), .one (.int .u64 c4)])
    (.trans (?_:_=aS [decide (c1≤1),decide (c2≤1),decide (c3≤1)] _) (ai hc)) (by rw [m2,← kv]; exact hent) trivial
   subst hc4 hc3 hc2 hc1
   kernel_rfl
 · cases hF

noncomputable def Xm:List D→Option (List Bool × V)
 | []=> some ([],kC pP)
 | _=> none
noncomputable def BB:aj:=spec [] Xm
noncomputable abbrev Qo:List (FuncId × aj):= []
theorem Ub:aD Tryz.prog (aK Qo):=aD.nil
theorem uK:bg Tryz.prog 196 BB:=by
 refine az (cx:=dx Qo) (c:=af Tryz.f196) Tryz.func196 (by kernel_rfl) (by kernel_rfl) rfl ?_
 intro ds chk v vs hF ht he hr base
 unfold Xm at hF
 split at hF
 · cases hF
   have hvs:vs= []:=by simp only [bq,Option.some.injEq] at he; exact he.symm
   subst hvs
   refine ek (bS Ub) (n:=200) (bs0:= []) (v0:= .ag (.ps [.int .u64 18446744073709551597, .int .u64 18446744073709551615, .int .u64 18446744073709551615, .int .u64 9223372036854775807])) (by kernel_rfl) (nV ?_) trivial
   decide+kernel
 · cases hF

noncomputable def aiz:List D→Option (List Bool × V)
 | [.i n]=> some ([],kC n.toNat)
 | _=> none
noncomputable def Ic:aj:=spec [Au] aiz
noncomputable abbrev aeN:List (FuncId × aj):= []
theorem aeV:aD Tryz.prog (aK aeN):=aD.nil
theorem si:bg Tryz.prog 148 Ic:=by
 refine az (cx:=dx aeN) (c:=af Tryz.f148) Tryz.func148 (by kernel_rfl) (by kernel_rfl) rfl ?_
 intro ds chk v vs hF ht he hr base
 unfold aiz at hF
 split at hF
 · rename_i n
   cases hF
   have hvs:vs= [j6 n]:=by simp only [bq,bn,bF,bD,Option.some.injEq] at he; exact he.symm
   subst hvs
   refine ek (bS aeV) (n:=200) (bs0:= []) (v0:= .ag (.ps [.int .u64 n, .int .u64 0, .int .u64 0, .int .u64 0])) (by kernel_rfl) (nV ?_) trivial
   simp
 · cases hF

theorem al4 (d:Nat) (hd:d<18446744073709551616):(((19*((d:Int) / 9223372036854775808)) % 18446744073709551616).toNat)=19*(d / 9223372036854775808):=by
 have e:((d:Int) / 9223372036854775808)=((d / 9223372036854775808:Nat):Int):=by simp
 have hq:d / 9223372036854775808≤1:=by
  have:=Nat.div_lt_of_lt_mul (m:=d) (n:=9223372036854775808) (k:=2) hd
  exact Nat.le_of_lt_succ this
 rw [e]
 generalize d / 9223372036854775808=q at*
 clear e hd
 have:q=0∨q=1:=by omega
 rcases this with rfl | rfl<;> decide

theorem YI {a d0 d1 d2 d3 q r m:Nat} (ea:a=d0+18446744073709551616*d1+340282366920938463463374607431768211456*d2+6277101735386680763835789423207666416102355444464034512896*d3)
 (a0:d0<18446744073709551616) (a1:d1<18446744073709551616) (a2:d2<18446744073709551616) (hd:d3=9223372036854775808*q+r) (hr:r<9223372036854775808) (hq:q≤1)
 (hm:m=(d0+18446744073709551616*(d1+18446744073709551616*(d2+18446744073709551616*r))+19*q) % 115792089237316195423570985008687907853269984665640564039457584007913129639936):
 m % pP=a % pP∧m<2*pP∧m<115792089237316195423570985008687907853269984665640564039457584007913129639936:=by
 have hx:d0+18446744073709551616*(d1+18446744073709551616*(d2+18446744073709551616*r))<57896044618658097711785492504343953926634992332820282019728792003956564819968:=by omega
 rw [Nat.mod_eq_of_lt (by omega)] at hm
 unfold pP
 have ea':a=m+57896044618658097711785492504343953926634992332820282019728792003956564819949*q:=by omega
 refine ⟨?_,by omega,by omega⟩
 rw [ea',Nat.add_mul_mod_self_left]

theorem aa6 {a:Nat} (h:a<115792089237316195423570985008687907853269984665640564039457584007913129639936) {m:Nat} (hm:m=(((digit 64 a 0:Nat):Int).toNat+2^64*(((digit 64 a 1:Nat):Int).toNat+2^64*(((digit 64 a 2:Nat):Int).toNat+
 2^64*(((((digit 64 a 3:Nat):Int).toNat &&& 9223372036854775807:Nat):Int).toNat+2^64*0)))+
 ((ak .u64 (19*(((digit 64 a 3:Nat):Int) / 9223372036854775808))).toNat+2^64*((0:Int).toNat+2^64*((0:Int).toNat+2^64*((0:Int).toNat+2^64*0))))) % 115792089237316195423570985008687907853269984665640564039457584007913129639936):
 m % pP=a % pP∧m<2*pP∧m<115792089237316195423570985008687907853269984665640564039457584007913129639936:=by
 obtain ⟨ea,a0,a1,a2,a3⟩:=gM h
 have hand: ∀ n:Nat,n &&& 9223372036854775807=n % 9223372036854775808:=fun n=> Nat.and_two_pow_sub_one_eq_mod n 63
 simp only [Int.toNat_natCast,hand,ak,Nat.reducePow,Int.toNat_zero,Nat.mul_zero,Nat.add_zero] at hm
 rw [al4 _ a3] at hm
 generalize digit 64 a 0=d0 at*
 generalize digit 64 a 1=d1 at*
 generalize digit 64 a 2=d2 at*
 generalize digit 64 a 3=d3 at*
 obtain ⟨q,hq⟩: ∃ q,q=d3 / 9223372036854775808:=⟨_,rfl⟩
 obtain ⟨r,hr⟩: ∃ r,r=d3 % 9223372036854775808:=⟨_,rfl⟩
 rw [← hq,← hr] at hm
 have h1:d3=9223372036854775808*q+r∧r<9223372036854775808∧q≤1:=by clear hm ea hand h; omega
 exact YI ea a0 a1 a2 h1.1 h1.2.1 h1.2.2 hm

theorem ag4 {m:Nat} (h:m<2*pP):(if m<pP then m else (m+115792089237316195423570985008687907853269984665640564039457584007913129639936 - pP) % 115792089237316195423570985008687907853269984665640564039457584007913129639936)=m % pP:=by
 unfold pP at*
 split
 · rename_i hlt
   rw [Nat.mod_eq_of_lt hlt]
 · omega

noncomputable def WE:List D→Option (List Bool × V)
 | [.n a]=> some ([],kC (aH a))
 | _=> none
noncomputable def sD:aj:=spec [yx] WE
noncomputable abbrev Ag:List (FuncId × aj):= [(193,Xl),(198,L8),(196,BB)]
theorem GM:aD Tryz.prog (aK Ag):=(.cons LH (.cons FJ (.cons uK .nil)))
theorem mr:bg Tryz.prog 197 sD:=by
 refine az (cx:=dx Ag) (c:=af Tryz.f197) Tryz.func197 (by kernel_rfl) (by kernel_rfl) rfl ?_
 intro ds chk v vs hF ht he hr base
 unfold WE at hF
 split at hF
 · rename_i a
   cases hF
   have hvs:vs= [kC a]:=by simp only [bq,bn,bF,bD,Option.some.injEq] at he; exact he.symm
   subst hvs
   obtain ⟨h1,_⟩:=hr
   obtain ⟨m,hm⟩: ∃ m:Nat,m=FP (((digit 64 a 0:Nat):Int).toNat+2^64*(((digit 64 a 1:Nat):Int).toNat+2^64*(((digit 64 a 2:Nat):Int).toNat+
    2^64*(((((digit 64 a 3:Nat):Int).toNat &&& 9223372036854775807:Nat):Int).toNat+2^64*0))))
    ((ak .u64 (19*(((digit 64 a 3:Nat):Int) / 9223372036854775808))).toNat+2^64*((0:Int).toNat+2^64*((0:Int).toNat+2^64*((0:Int).toNat+2^64*0)))):=⟨_,rfl⟩
   obtain ⟨m1,m2,m3⟩:=aa6 (jF h1) (hm.trans (uN _ _))
   have hs:=ag4 m2
   rw [m1] at hs
   have hev:ev (dx Ag) 200 (af Tryz.f197) ⟨t0 Tryz.f197 [kC a],[]⟩ (jv (dx Ag) Tryz.f197 base)=
    bif decide ((bif jW m pP then (1:Int) else 0)=0) then .done .ret ⟨[kC (lI m pP)],[]⟩ else .done .ret ⟨[kC m],[]⟩:=by
    rw [hm]
    kernel_rfl
   rw [ed]
   by_cases hlt:m<pP
   · rw [if_pos hlt] at hs
     refine ek (bS GM) (n:=200) (bs0:= []) (v0:=kC m) (hev.trans ?_) (by rw [← hs]; exact aL.refl _) trivial
     rw [kv,decide_eq_true hlt]; rfl
   · rw [if_neg hlt,← lJ] at hs
     refine ek (bS GM) (n:=200) (bs0:= []) (v0:=kC (lI m pP)) (hev.trans ?_) (by rw [← hs]; exact aL.refl _) trivial
     rw [kv,decide_eq_false hlt]; rfl
 · cases hF
end Go.Proofs.YtcgmcohkkigphaaGreat

/-
  Contracts of the program's field of 2^255 - 19: sums and products.
-/
namespace Go.Proofs.YtcgmcohkkigphaaGreat
open Go Vx Go.RowKit

noncomputable def aes:List D→Option (List Bool × V)
 | [.n a, .n b]=> some ([], .one (.bool (lq a b)))
 | _=> none
noncomputable def aer:aj:=spec [yx,yx] aes
noncomputable abbrev X6:List (FuncId × aj):= [(197,sD)]
theorem aav:aD Tryz.prog (aK X6):=(.cons mr .nil)
theorem Wd:bg Tryz.prog 155 aer:=by
 refine az (cx:=dx X6) (c:=af Tryz.f155) Tryz.func155 (by kernel_rfl) (by kernel_rfl) rfl ?_
 intro ds chk v vs hF ht he hr base
 unfold aes at hF
 split at hF
 · rename_i a b
   cases hF
   have hvs:vs= [kC a,kC b]:=by simp only [bq,bn,bF,bD,Option.some.injEq] at he; exact he.symm
   subst hvs
   have e:lq a b=decide (aH a=aH b):=by rw [Gu,ed,ed]
   rw [e]
   exact ek (bS aav) (n:=400) (bs0:= []) (by kernel_rfl) (aL.refl _) trivial
 · cases hF

noncomputable def adT:List D→Option (List Bool × V)
 | [.n a]=> some ([], .one (.bool (nz a)))
 | _=> none
noncomputable def WZ:aj:=spec [yx] adT
noncomputable abbrev XP:List (FuncId × aj):= [(197,sD)]
theorem aai:aD Tryz.prog (aK XP):=(.cons mr .nil)
theorem LC:bg Tryz.prog 143 WZ:=by
 refine az (cx:=dx XP) (c:=af Tryz.f143) Tryz.func143 (by kernel_rfl) (by kernel_rfl) rfl ?_
 intro ds chk v vs hF ht he hr base
 unfold adT at hF
 split at hF
 · rename_i a
   cases hF
   have hvs:vs= [kC a]:=by simp only [bq,bn,bF,bD,Option.some.injEq] at he; exact he.symm
   subst hvs
   rw [rZ]
   have hd:(((digit 64 (aH a) 0:Nat):Int).toNat &&& 1)=a % pP % 2:=by
    have h1: ∀ n:Nat,n &&& 1=n % 2:=fun n=> Nat.and_two_pow_sub_one_eq_mod n 1
    rw [Int.toNat_natCast,h1]
    simp only [digit,Nat.mul_zero,Nat.pow_zero,Nat.div_one,ed]
    exact Nat.mod_mod_of_dvd _ (by decide)
   have he:(((((digit 64 (aH a) 0:Nat):Int).toNat &&& 1:Nat):Int)=1)=(a % pP % 2=1):=by
    rw [hd]; exact propext ⟨fun h=> by omega,fun h=> by omega⟩
   refine ek (bS aai) (n:=200) (bs0:= []) (v0:= .one (.bool (decide (((((digit 64 (aH a) 0:Nat):Int).toNat &&& 1:Nat):Int)=1)))) (by kernel_rfl) ?_ trivial
   rw [show decide (((((digit 64 (aH a) 0:Nat):Int).toNat &&& 1:Nat):Int)=1)=decide (a % pP % 2=1) by simp only [he]]
   exact aL.refl _
 · cases hF

def Gw (a:Nat) (c:Int) (z:List L):St:=⟨[.aC,j6 c, .one (.ptr 0 0), .aC, .one (.ptr 1 0), .aC, .aC, .aC, .aC, .aC, .aC, .aC, .aC, .aC, .aC, .aC, .aC],
 [some ⟨136, .ps [.pk .u64 64 4 a]⟩,some ⟨136, .ps z⟩]⟩
def z4:List L:= [.int .u64 0, .int .u64 0, .int .u64 0, .int .u64 0]
def Fe (a:Nat) (c:Int):Nat:=2*c.toNat+if 115792089237316195423570985008687907853269984665640564039457584007913129639898≤a then 1 else 0

theorem w38 {c:Int} (h0:0≤c) (h1:c<288230376151711744):
 (ak .u64 (38*c)).toNat+2^64*((0:Int).toNat+2^64*((0:Int).toNat+2^64*((0:Int).toNat+2^64*0)))=38*c.toNat:=by
 have e:ak .u64 (38*c)=38*c:=by
  simp only [ak]
  exact Int.emod_eq_of_lt (by omega) (by omega)
 rw [e]
 simp only [Int.toNat_zero,Nat.mul_zero,Nat.add_zero]
 omega

theorem Y4 {a:Nat} {c:Int} (ha:a<115792089237316195423570985008687907853269984665640564039457584007913129639936) (h0:0<c) (h1:c<288230376151711744) {n2:Nat} (hn:n2=38*c.toNat):
 (((a+n2) / 115792089237316195423570985008687907853269984665640564039457584007913129639936:Nat):Int)≤1∧((a+n2) % 115792089237316195423570985008687907853269984665640564039457584007913129639936+((((a+n2) / 115792089237316195423570985008687907853269984665640564039457584007913129639936:Nat):Int)).toNat*115792089237316195423570985008687907853269984665640564039457584007913129639936) % pP=(a+c.toNat*115792089237316195423570985008687907853269984665640564039457584007913129639936) % pP∧
   Fe ((a+n2) % 115792089237316195423570985008687907853269984665640564039457584007913129639936) (((a+n2) / 115792089237316195423570985008687907853269984665640564039457584007913129639936:Nat):Int)<Fe a c:=by
 obtain ⟨q,hq⟩: ∃ q,q=(a+n2) / 115792089237316195423570985008687907853269984665640564039457584007913129639936:=⟨_,rfl⟩
 obtain ⟨r,hr⟩: ∃ r,r=(a+n2) % 115792089237316195423570985008687907853269984665640564039457584007913129639936:=⟨_,rfl⟩
 have hqr:a+n2=115792089237316195423570985008687907853269984665640564039457584007913129639936*q+r:=by rw [hq,hr]; exact (Nat.div_add_mod _ _).symm
 have hrl:r<115792089237316195423570985008687907853269984665640564039457584007913129639936:=by rw [hr]; exact Nat.mod_lt _ (by omega)
 rw [← hq,← hr]
 clear hq hr
 obtain ⟨C,rfl⟩:=Int.eq_ofNat_of_zero_le (Int.le_of_lt h0)
 simp only [Int.toNat_natCast] at*
 have hq1:q≤1:=by omega
 refine ⟨by omega,?_,?_⟩
 · have e:a+C*115792089237316195423570985008687907853269984665640564039457584007913129639936=(r+q*115792089237316195423570985008687907853269984665640564039457584007913129639936)+pP*(2*C):=by
    unfold pP; omega
   rw [e,Nat.add_mul_mod_self_left]
 · unfold Fe
   simp only [Int.toNat_natCast]
   have:q=0∨q=1:=by omega
   rcases this with rfl | rfl
   · split<;> split<;> omega
   · split<;> split<;> omega

noncomputable def adI:List D→Option (List Bool × V)
 | [.n a, .i c]=> some ([wu c],kC (BV a c))
 | _=> none
noncomputable def adH:aj:=spec [yx,Au] adI
noncomputable abbrev Mk:List (FuncId × aj):= [(193,Xl),(197,sD)]
theorem wH:aD Tryz.prog (aK Mk):=(.cons LH (.cons mr .nil))
theorem VZ:bg Tryz.prog 192 adH:=by
 refine az (cx:=dx Mk) (c:=af Tryz.f192) Tryz.func192 (by kernel_rfl) (by kernel_rfl) rfl ?_
 intro ds chk v vs hF ht he hr base
 unfold adI at hF
 split at hF
 · rename_i a c
   cases hF
   have hvs:vs= [kC a,j6 c]:=by simp only [bq,bn,bF,bD,Option.some.injEq] at he; exact he.symm
   subst hvs
   have hc:c<288230376151711744:=of_decide_eq_true (by rw [← ym]; exact ht _ (by simp))
   obtain ⟨h1,h2,_⟩:=hr
   have ha:=jF h1
   have hc0:=(nD h2).1
   clear h1 h2 ht
   refine bM.items _ _ _ (ae.pre (bS wH) (n:=100) (k:=1) (kt:= [1,2,4]) (kh:= [0,1]) (m:=2) (e:= .normal) (st':=Gw a c z4) (by kernel_rfl) ?_)
   refine ae.loop (id:=0) (by kernel_rfl) (fun m s=> ∃ a' c',s=Gw a' c' z4∧a'<115792089237316195423570985008687907853269984665640564039457584007913129639936∧0≤c'∧c'<288230376151711744∧(a'+c'.toNat*115792089237316195423570985008687907853269984665640564039457584007913129639936) % pP=(a+c.toNat*115792089237316195423570985008687907853269984665640564039457584007913129639936) % pP∧m=Fe a' c')
    (Fe a c) ⟨a,c,rfl,ha,hc0,hc,rfl,rfl⟩ ?_
   rintro m s ⟨a',c',rfl,ha',hc0',hc',heq,rfl⟩
   obtain ⟨n2,hn2⟩: ∃ n2:Nat,n2=(ak .u64 (38*c')).toNat+2^64*((0:Int).toNat+2^64*((0:Int).toNat+2^64*((0:Int).toNat+2^64*0))):=⟨_,rfl⟩
   have hev:evL (dx Mk) 100 (items (aY (af Tryz.f192) 1)) (Gw a' c' z4) (iF 0 [1,2,4] [0,1] 2)=
    bif decide (0<c') then .done .normal (Gw (FP a' n2) (zO a' n2:Int) z4) else .done (.exit 0) (Gw a' c' z4):=by
    rw [hn2]
    kernel_rfl
   by_cases h:0<c'
   · refine ae.all (bS wH) (hev.trans (by rw [decide_eq_true h]; rfl)) ?_
     have hn:n2=38*c'.toNat:=hn2.trans (w38 hc0' hc')
     obtain ⟨e1,e2,e3⟩:=Y4 ha' h hc' hn
     rw [← uN,← qF] at e2 e3
     rw [← qF] at e1
     exact ⟨_,e3,_,_,rfl,by rw [uN]; exact Nat.mod_lt _ (by decide),Int.natCast_nonneg _,Int.lt_of_le_of_lt e1 (by decide),e2.trans heq,rfl⟩
   · have hz:c'=0:=Int.le_antisymm (Int.not_lt.1 h) hc0'
     subst hz
     refine ae.all (bS wH) (hev.trans (by rfl)) ?_
     have hm:aH a'=BV a c:=by rw [ed,EO,← heq]; simp
     refine Ga (bS wH) (n:=100) (bs0:= []) (v0:=kC (aH a')) (by kernel_rfl) (by rw [hm]; exact aL.refl _) trivial
 · cases hF
end Go.Proofs.YtcgmcohkkigphaaGreat

/-
  Contracts of the program's field of 2^255 - 19: sums and products.
-/
namespace Go.Proofs.YtcgmcohkkigphaaGreat
open Go Vx Go.RowKit

noncomputable def adO:List D→Option (List Bool × V)
 | [.n a, .n b]=> some ([],kC (bH a b))
 | _=> none
noncomputable def z8:aj:=spec [yx,yx] adO
noncomputable abbrev XL:List (FuncId × aj):= [(193,Xl),(192,adH)]
theorem aae:aD Tryz.prog (aK XL):=(.cons LH (.cons VZ .nil))
theorem o6:bg Tryz.prog 140 z8:=by
 refine az (cx:=dx XL) (c:=af Tryz.f140) Tryz.func140 (by kernel_rfl) (by kernel_rfl) rfl ?_
 intro ds chk v vs hF ht he hr base
 unfold adO at hF
 split at hF
 · rename_i a b
   cases hF
   have hvs:vs= [kC a,kC b]:=by simp only [bq,bn,bF,bD,Option.some.injEq] at he; exact he.symm
   subst hvs
   obtain ⟨h1,h2,_⟩:=hr
   have ha:=jF h1
   have hb:=jF h2
   have hq1:zO a b≤1:=by
    rw [qF]
    exact Nat.le_of_lt_succ (Nat.div_lt_of_lt_mul (by omega))
   have hc:allT [wu (zO a b:Int)]:=aU (by rw [ym,decide_eq_true_iff]; omega)
   have hm:BV (FP a b) (zO a b:Int)=bH a b:=by
    rw [EO,uN,qF,yI,Int.toNat_natCast,Nat.mul_comm,Nat.mod_add_div]
   rw [← hm]
   exact ek (bS aae) (n:=100) (bs0:= []) (v0:=kC (BV (FP a b) (zO a b:Int))) (.trans (by kernel_rfl:_=aS [wu (zO a b:Int)] _) (ai hc)) (aL.refl _) trivial
 · cases hF

noncomputable def adS:List D→Option (List Bool × V)
 | [.n a]=> some ([],kC (fJ a))
 | _=> none
noncomputable def Aa:aj:=spec [yx] adS
noncomputable abbrev XO:List (FuncId × aj):= [(198,L8),(196,BB),(197,sD)]
theorem aah:aD Tryz.prog (aK XO):=(.cons FJ (.cons uK (.cons mr .nil)))
theorem o7:bg Tryz.prog 144 Aa:=by
 refine az (cx:=dx XO) (c:=af Tryz.f144) Tryz.func144 (by kernel_rfl) (by kernel_rfl) rfl ?_
 intro ds chk v vs hF ht he hr base
 unfold adS at hF
 split at hF
 · rename_i a
   cases hF
   have hvs:vs= [kC a]:=by simp only [bq,bn,bF,bD,Option.some.injEq] at he; exact he.symm
   subst hvs
   have hm:aH (lI pP (aH a))=fJ a:=by
    rw [ed,lJ,ed,oV]
    have:a % pP<pP:=Nat.mod_lt _ (by decide)
    congr 1
    unfold pP at*
    omega
   rw [← hm]
   exact ek (bS aah) (n:=100) (bs0:= []) (by kernel_rfl) (aL.refl _) trivial
 · cases hF

noncomputable def adW:List D→Option (List Bool × V)
 | [.n a, .n b]=> some ([],kC (bX a b))
 | _=> none
noncomputable def JF:aj:=spec [yx,yx] adW
noncomputable abbrev XQ:List (FuncId × aj):= [(140,z8),(144,Aa)]
theorem aaj:aD Tryz.prog (aK XQ):=(.cons o6 (.cons o7 .nil))
theorem zI:bg Tryz.prog 141 JF:=by
 refine az (cx:=dx XQ) (c:=af Tryz.f141) Tryz.func141 (by kernel_rfl) (by kernel_rfl) rfl ?_
 intro ds chk v vs hF ht he hr base
 unfold adW at hF
 split at hF
 · rename_i a b
   cases hF
   have hvs:vs= [kC a,kC b]:=by simp only [bq,bn,bF,bD,Option.some.injEq] at he; exact he.symm
   subst hvs
   rw [← Gz]
   exact ek (bS aaj) (n:=100) (bs0:= []) (by kernel_rfl) (aL.refl _) trivial
 · cases hF

noncomputable def adN:List D→Option (List Bool × V)
 | [.n a]=> some ([],kC (kZ a))
 | _=> none
noncomputable def WW:aj:=spec [yx] adN
noncomputable abbrev Dz:List (FuncId × aj):= [(143,WZ),(144,Aa),(197,sD)]
theorem JY:aD Tryz.prog (aK Dz):=(.cons LC (.cons o7 (.cons mr .nil)))
theorem LB:bg Tryz.prog 146 WW:=by
 refine az (cx:=dx Dz) (c:=af Tryz.f146) Tryz.func146 (by kernel_rfl) (by kernel_rfl) rfl ?_
 intro ds chk v vs hF ht he hr base
 unfold adN at hF
 split at hF
 · rename_i a
   cases hF
   have hvs:vs= [kC a]:=by simp only [bq,bn,bF,bD,Option.some.injEq] at he; exact he.symm
   subst hvs
   have hev:ev (dx Dz) 100 (af Tryz.f146) ⟨t0 Tryz.f146 [kC a],[]⟩ (jv (dx Dz) Tryz.f146 base)=
    bif nz a then .done .ret ⟨[kC (fJ a)],[]⟩ else .done .ret ⟨[kC (aH a)],[]⟩:=by kernel_rfl
   have e:kZ a=if nz a=true then fJ a else aH a:=by rw [CQ,rZ,oV,ed]; simp only [decide_eq_true_iff]
   rw [e]
   cases h:nz a with
   | true=> exact ek (bS JY) (n:=100) (bs0:= []) (hev.trans (by rw [h]; rfl)) (aL.refl _) trivial
   | false=> exact ek (bS JY) (n:=100) (bs0:= []) (hev.trans (by rw [h]; rfl)) (aL.refl _) trivial
 · cases hF

def mS (x y s c:Int):Int:=(s+(x*y % 18446744073709551616+c+0) % 18446744073709551616+0) % 18446744073709551616
def mC (x y s c:Int):Int:=ak .u64 (ak .u64 (x*y / 18446744073709551616+(x*y % 18446744073709551616+c+0) / 18446744073709551616)+
 (s+(x*y % 18446744073709551616+c+0) % 18446744073709551616+0) / 18446744073709551616)

def W (x:Int):Prop:=0≤x∧x<18446744073709551616

theorem Cc {x y s c:Int} (hx:W x) (hy:W y) (hs:W s) (hc:W c):mS x y s c+18446744073709551616*mC x y s c=s+x*y+c∧W (mS x y s c)∧W (mC x y s c):=by
 have hp:0≤x*y∧x*y≤340282366920938463426481119284349108225:=by
  refine ⟨Int.mul_nonneg hx.1 hy.1,?_⟩
  calc x*y≤18446744073709551615*y:=Int.mul_le_mul_of_nonneg_right (by have:=hx.2; omega) hy.1
   _≤18446744073709551615*18446744073709551615:=Int.mul_le_mul_of_nonneg_left (by have:=hy.2; omega) (by omega)
 unfold mS mC
 generalize x*y=P at*
 obtain ⟨h,hh⟩: ∃ h,h=P / 18446744073709551616:=⟨_,rfl⟩
 obtain ⟨l,hl⟩: ∃ l,l=P % 18446744073709551616:=⟨_,rfl⟩
 have e1:P=18446744073709551616*h+l∧0≤l∧l<18446744073709551616∧0≤h∧h≤18446744073709551614:=by omega
 rw [← hh,← hl]
 clear hh hl
 obtain ⟨q1,hq1⟩: ∃ h,h=(l+c+0) / 18446744073709551616:=⟨_,rfl⟩
 obtain ⟨r1,hr1⟩: ∃ h,h=(l+c+0) % 18446744073709551616:=⟨_,rfl⟩
 have e2:l+c=18446744073709551616*q1+r1∧0≤r1∧r1<18446744073709551616∧0≤q1∧q1≤1:=by obtain ⟨_,_⟩:=hc; omega
 rw [← hq1,← hr1]
 clear hq1 hr1
 obtain ⟨q2,hq2⟩: ∃ h,h=(s+r1+0) / 18446744073709551616:=⟨_,rfl⟩
 obtain ⟨r2,hr2⟩: ∃ h,h=(s+r1+0) % 18446744073709551616:=⟨_,rfl⟩
 have e3:s+r1=18446744073709551616*q2+r2∧0≤r2∧r2<18446744073709551616∧0≤q2∧q2≤1:=by obtain ⟨_,_⟩:=hs; omega
 rw [← hq2,← hr2]
 clear hq2 hr2
 have tot:18446744073709551616*(h+q1+q2)+r2=s+P+c:=by omega
 have hlt:h+q1+q2<18446744073709551616:=by
  obtain ⟨_,_⟩:=hs
  obtain ⟨_,_⟩:=hc
  omega
 have w1:ak .u64 (h+q1)=h+q1:=by simp only [ak]; exact Int.emod_eq_of_lt (by omega) (by omega)
 have w2:ak .u64 (h+q1+q2)=h+q1+q2:=by simp only [ak]; exact Int.emod_eq_of_lt (by omega) hlt
 rw [w1,w2]
 exact ⟨by omega,⟨e3.2.1,e3.2.2.1⟩,⟨by omega,hlt⟩⟩

structure Row where
 s0:Int
 s1:Int
 s2:Int
 s3:Int
 c:Int

def Lh (x b0 b1 b2 b3 s0 s1 s2 s3:Int):Row:=
 let c1:=mC x b0 s0 0
 let c2:=mC x b1 s1 c1
 let c3:=mC x b2 s2 c2
 ⟨mS x b0 s0 0,mS x b1 s1 c1,mS x b2 s2 c2,mS x b3 s3 c3,mC x b3 s3 c3⟩

theorem De {x b0 b1 b2 b3 s0 s1 s2 s3:Int} (hx:W x) (h0:W b0) (h1:W b1) (h2:W b2) (h3:W b3) (k0:W s0) (k1:W s1) (k2:W s2) (k3:W s3):
 let r:=Lh x b0 b1 b2 b3 s0 s1 s2 s3
 r.s0+18446744073709551616*r.s1+340282366920938463463374607431768211456*r.s2+6277101735386680763835789423207666416102355444464034512896*r.s3+115792089237316195423570985008687907853269984665640564039457584007913129639936*r.c=
  s0+18446744073709551616*s1+340282366920938463463374607431768211456*s2+6277101735386680763835789423207666416102355444464034512896*s3+
  x*(b0+18446744073709551616*b1+340282366920938463463374607431768211456*b2+6277101735386680763835789423207666416102355444464034512896*b3)∧
 W r.s0∧W r.s1∧W r.s2∧W r.s3∧W r.c:=by
 intro r
 obtain ⟨e0,w0,v0⟩:=Cc hx h0 k0 (show W 0 by unfold W; omega)
 obtain ⟨e1,w1,v1⟩:=Cc hx h1 k1 v0
 obtain ⟨e2,w2,v2⟩:=Cc hx h2 k2 v1
 obtain ⟨e3,w3,v3⟩:=Cc hx h3 k3 v2
 refine ⟨?_,w0,w1,w2,w3,v3⟩
 show mS x b0 s0 0+18446744073709551616*mS x b1 s1 (mC x b0 s0 0)+340282366920938463463374607431768211456*mS x b2 s2 (mC x b1 s1 (mC x b0 s0 0))+
  6277101735386680763835789423207666416102355444464034512896*mS x b3 s3 (mC x b2 s2 (mC x b1 s1 (mC x b0 s0 0)))+115792089237316195423570985008687907853269984665640564039457584007913129639936*mC x b3 s3 (mC x b2 s2 (mC x b1 s1 (mC x b0 s0 0)))=_
 generalize mC x b3 s3 (mC x b2 s2 (mC x b1 s1 (mC x b0 s0 0)))=c4 at*
 generalize mS x b3 s3 (mC x b2 s2 (mC x b1 s1 (mC x b0 s0 0)))=t3 at*
 generalize mC x b2 s2 (mC x b1 s1 (mC x b0 s0 0))=c3 at*
 generalize mS x b2 s2 (mC x b1 s1 (mC x b0 s0 0))=t2 at*
 generalize mC x b1 s1 (mC x b0 s0 0)=c2 at*
 generalize mS x b1 s1 (mC x b0 s0 0)=t1 at*
 generalize mC x b0 s0 0=c1 at*
 generalize mS x b0 s0 0=t0 at*
 have hd:x*(b0+18446744073709551616*b1+340282366920938463463374607431768211456*b2+6277101735386680763835789423207666416102355444464034512896*b3)=
  x*b0+18446744073709551616*(x*b1)+340282366920938463463374607431768211456*(x*b2)+6277101735386680763835789423207666416102355444464034512896*(x*b3):=by
  simp only [Int.mul_add,Int.mul_left_comm x]
 rw [hd]
 generalize x*b0=p0 at*
 generalize x*b1=p1 at*
 generalize x*b2=p2 at*
 generalize x*b3=p3 at*
 clear w0 w1 w2 w3 v0 v1 v2 v3 hd hx h0 h1 h2 h3 k0 k1 k2 k3
 omega
end Go.Proofs.YtcgmcohkkigphaaGreat

/-
  Contracts of the program's field of 2^255 - 19: products.
-/
namespace Go.Proofs.YtcgmcohkkigphaaGreat
open Go Vx Go.RowKit

theorem W0:W 0:=by unfold W; omega
theorem W38:W 38:=by unfold W; omega

theorem mul_eq {a b:Nat} (ha:a<115792089237316195423570985008687907853269984665640564039457584007913129639936) (hb:b<115792089237316195423570985008687907853269984665640564039457584007913129639936) {r0 r1 r2 r3:Row}
 (h0:r0=Lh (digit 64 a 0) (digit 64 b 0) (digit 64 b 1) (digit 64 b 2) (digit 64 b 3) 0 0 0 0)
 (h1:r1=Lh (digit 64 a 1) (digit 64 b 0) (digit 64 b 1) (digit 64 b 2) (digit 64 b 3) r0.s1 r0.s2 r0.s3 r0.c)
 (h2:r2=Lh (digit 64 a 2) (digit 64 b 0) (digit 64 b 1) (digit 64 b 2) (digit 64 b 3) r1.s1 r1.s2 r1.s3 r1.c)
 (h3:r3=Lh (digit 64 a 3) (digit 64 b 0) (digit 64 b 1) (digit 64 b 2) (digit 64 b 3) r2.s1 r2.s2 r2.s3 r2.c) {f1 f2 f3 f4:Int}
 (g1:f1=mC r3.s1 38 r0.s0 0) (g2:f2=mC r3.s2 38 r1.s0 f1) (g3:f3=mC r3.s3 38 r2.s0 f2) (g4:f4=mC r3.c 38 r3.s0 f3):
 f4<288230376151711744∧BV ((mS r3.s1 38 r0.s0 0).toNat+2^64*((mS r3.s2 38 r1.s0 f1).toNat+2^64*((mS r3.s3 38 r2.s0 f2).toNat+2^64*((mS r3.c 38 r3.s0 f3).toNat+2^64*0)))) f4=ah a b:=by
 obtain ⟨ea,a0,a1,a2,a3⟩:=gM ha
 obtain ⟨eb,b0,b1,b2,b3⟩:=gM hb
 have wd: ∀ n:Nat,n<18446744073709551616→W (n:Int):=by intro n hn; unfold W; omega
 have hbI:(b:Int)=(digit 64 b 0:Int)+18446744073709551616*(digit 64 b 1:Int)+340282366920938463463374607431768211456*(digit 64 b 2:Int)+6277101735386680763835789423207666416102355444464034512896*(digit 64 b 3:Int):=by clear ea h0 h1 h2 h3; omega
 have haI:(a:Int)=(digit 64 a 0:Int)+18446744073709551616*(digit 64 a 1:Int)+340282366920938463463374607431768211456*(digit 64 a 2:Int)+6277101735386680763835789423207666416102355444464034512896*(digit 64 a 3:Int):=by clear eb h0 h1 h2 h3; omega
 have m0:=De (wd _ a0) (wd _ b0) (wd _ b1) (wd _ b2) (wd _ b3) W0 W0 W0 W0
 rw [← h0] at m0
 obtain ⟨e0,p0,p1,p2,p3,p4⟩:=m0
 have m1:=De (wd _ a1) (wd _ b0) (wd _ b1) (wd _ b2) (wd _ b3) p1 p2 p3 p4
 rw [← h1] at m1
 obtain ⟨e1,q0,q1,q2,q3,q4⟩:=m1
 have m2:=De (wd _ a2) (wd _ b0) (wd _ b1) (wd _ b2) (wd _ b3) q1 q2 q3 q4
 rw [← h2] at m2
 obtain ⟨e2,t0,t1,t2,t3,t4⟩:=m2
 have m3:=De (wd _ a3) (wd _ b0) (wd _ b1) (wd _ b2) (wd _ b3) t1 t2 t3 t4
 rw [← h3] at m3
 obtain ⟨e3,u0,u1,u2,u3,u4⟩:=m3
 rw [← hbI] at e0 e1 e2 e3
 obtain ⟨k1,v1,x1⟩:=Cc u1 W38 p0 W0
 obtain ⟨k2,v2,x2⟩:=Cc u2 W38 q0 x1
 rw [← g1] at k1 k2 x1 x2 v2
 obtain ⟨k3,v3,x3⟩:=Cc u3 W38 t0 x2
 rw [← g2] at k2 k3 x2 x3 v3
 obtain ⟨k4,v4,x4⟩:=Cc u4 W38 u0 x3
 rw [← g3] at k3 k4 x3 x4 v4
 rw [← g4] at k4 x4
 clear h0 h1 h2 h3 g1 g2 g3 g4 wd hbI ea eb a0 a1 a2 a3 b0 b1 b2 b3
 generalize mS r3.s1 38 r0.s0 0=z0 at*
 generalize mS r3.s2 38 r1.s0 f1=z1 at*
 generalize mS r3.s3 38 r2.s0 f2=z2 at*
 generalize mS r3.c 38 r3.s0 f3=z3 at*
 have hprod:(a:Int)*b=(digit 64 a 0:Int)*b+18446744073709551616*((digit 64 a 1:Int)*b)+340282366920938463463374607431768211456*((digit 64 a 2:Int)*b)+6277101735386680763835789423207666416102355444464034512896*((digit 64 a 3:Int)*b):=by
  rw [haI]
  simp only [Int.add_mul,Int.mul_assoc]
 generalize (digit 64 a 0:Int)*b=y0 at*
 generalize (digit 64 a 1:Int)*b=y1 at*
 generalize (digit 64 a 2:Int)*b=y2 at*
 generalize (digit 64 a 3:Int)*b=y3 at*
 obtain ⟨Pab,hP⟩: ∃ p:Nat,p=a*b:=⟨_,rfl⟩
 have hPI:(Pab:Int)=(a:Int)*b:=by rw [hP]; simp
 rw [← hPI] at hprod
 have hfold:((z0+18446744073709551616*z1+340282366920938463463374607431768211456*z2+6277101735386680763835789423207666416102355444464034512896*z3):Int)+115792089237316195423570985008687907853269984665640564039457584007913129639936*f4+
  57896044618658097711785492504343953926634992332820282019728792003956564819949*(2*(r3.s1+18446744073709551616*r3.s2+340282366920938463463374607431768211456*r3.s3+6277101735386680763835789423207666416102355444464034512896*r3.c))=Pab:=by
  clear p0 p1 p2 p3 p4 q0 q1 q2 q3 q4 t0 t1 t2 t3 t4 u0 u1 u2 u3 u4 v1 v2 v3 v4 x1 x2 x3 x4 hPI haI
  omega
 have hf4:f4<288230376151711744:=by
  clear hfold hprod e0 e1 e2 e3 k1 k2 k3 hPI haI p0 p1 p2 p3 p4 q0 q1 q2 q3 q4 t0 t1 t2 t3 t4 u1 u2 u3 v1 v2 v3 x1 x2
  unfold W at*
  omega
 refine ⟨hf4,?_⟩
 rw [EO,lZ,← hP]
 obtain ⟨Z0,rfl⟩:=Int.eq_ofNat_of_zero_le v1.1
 obtain ⟨Z1,rfl⟩:=Int.eq_ofNat_of_zero_le v2.1
 obtain ⟨Z2,rfl⟩:=Int.eq_ofNat_of_zero_le v3.1
 obtain ⟨Z3,rfl⟩:=Int.eq_ofNat_of_zero_le v4.1
 obtain ⟨F4,rfl⟩:=Int.eq_ofNat_of_zero_le x4.1
 obtain ⟨q,hq⟩:=Int.eq_ofNat_of_zero_le (show 0≤r3.s1+18446744073709551616*r3.s2+340282366920938463463374607431768211456*r3.s3+6277101735386680763835789423207666416102355444464034512896*r3.c by
  have:=u1.1; have:=u2.1; have:=u3.1; have:=u4.1; clear hfold hprod e0 e1 e2 e3 k1 k2 k3 k4 hPI haI; omega)
 rw [hq] at hfold
 simp only [Int.toNat_natCast,Nat.reducePow]
 have hN:Pab=(Z0+18446744073709551616*(Z1+18446744073709551616*(Z2+18446744073709551616*(Z3+18446744073709551616*0)))+F4*115792089237316195423570985008687907853269984665640564039457584007913129639936)+pP*(2*q):=by
  clear hq hprod e0 e1 e2 e3 k1 k2 k3 k4 hPI haI p0 p1 p2 p3 p4 q0 q1 q2 q3 q4 t0 t1 t2 t3 t4 u0 u1 u2 u3 u4 v1 v2 v3 v4 x1 x2 x3 x4 hf4
  unfold pP
  omega
 rw [hN,Nat.add_mul_mod_self_left]

noncomputable def adR:List D→Option (List Bool × V)
 | [.n a, .n b]=> some ([],kC (ah a b))
 | _=> none
noncomputable def xu:aj:=spec [yx,yx] adR
noncomputable abbrev XN:List (FuncId × aj):= [(177,Tp),(178,Gc),(192,adH)]
theorem aag:aD Tryz.prog (aK XN):=(.cons OG (.cons zD (.cons VZ .nil)))
theorem nA:bg Tryz.prog 139 xu:=by
 refine az (cx:=dx XN) (c:=af Tryz.f139) Tryz.func139 (by kernel_rfl) (by kernel_rfl) rfl ?_
 intro ds chk v vs hF ht he hr base
 unfold adR at hF
 split at hF
 · rename_i a b
   cases hF
   have hvs:vs= [kC a,kC b]:=by simp only [bq,bn,bF,bD,Option.some.injEq] at he; exact he.symm
   subst hvs
   obtain ⟨h1,h2,_⟩:=hr
   have ha:=jF h1
   have hb:=jF h2
   obtain ⟨r0,hr0⟩: ∃ r,r=Lh (digit 64 a 0) (digit 64 b 0) (digit 64 b 1) (digit 64 b 2) (digit 64 b 3) 0 0 0 0:=⟨_,rfl⟩
   obtain ⟨r1,hr1⟩: ∃ r,r=Lh (digit 64 a 1) (digit 64 b 0) (digit 64 b 1) (digit 64 b 2) (digit 64 b 3) r0.s1 r0.s2 r0.s3 r0.c:=⟨_,rfl⟩
   obtain ⟨r2,hr2⟩: ∃ r,r=Lh (digit 64 a 2) (digit 64 b 0) (digit 64 b 1) (digit 64 b 2) (digit 64 b 3) r1.s1 r1.s2 r1.s3 r1.c:=⟨_,rfl⟩
   obtain ⟨r3,hr3⟩: ∃ r,r=Lh (digit 64 a 3) (digit 64 b 0) (digit 64 b 1) (digit 64 b 2) (digit 64 b 3) r2.s1 r2.s2 r2.s3 r2.c:=⟨_,rfl⟩
   obtain ⟨f1,hf1⟩: ∃ f,f=mC r3.s1 38 r0.s0 0:=⟨_,rfl⟩
   obtain ⟨f2,hf2⟩: ∃ f,f=mC r3.s2 38 r1.s0 f1:=⟨_,rfl⟩
   obtain ⟨f3,hf3⟩: ∃ f,f=mC r3.s3 38 r2.s0 f2:=⟨_,rfl⟩
   obtain ⟨f4,hf4⟩: ∃ f,f=mC r3.c 38 r3.s0 f3:=⟨_,rfl⟩
   obtain ⟨e1,e2⟩:=mul_eq ha hb hr0 hr1 hr2 hr3 hf1 hf2 hf3 hf4
   rw [← e2]
   refine ek (bS aag) (n:=400) (bs0:= []) (v0:=kC (BV ((mS r3.s1 38 r0.s0 0).toNat+2^64*((mS r3.s2 38 r1.s0 f1).toNat+2^64*((mS r3.s3 38 r2.s0 f2).toNat+2^64*((mS r3.c 38 r3.s0 f3).toNat+2^64*0)))) f4))
    (.trans (?_:_=aS [wu f4] _) (ai (aU (by rw [ym,decide_eq_true_iff]; exact e1)))) (aL.refl _) trivial
   subst hf4 hf3 hf2 hf1 hr3 hr2 hr1 hr0
   kernel_rfl
 · cases hF
end Go.Proofs.YtcgmcohkkigphaaGreat

/-
  Contracts of the program's field of 2^255 - 19: powers, roots, bytes.
-/
namespace Go.Proofs.YtcgmcohkkigphaaGreat
open Go Vx Go.RowKit

abbrev iq:Ty:= .ag [.pk .u8 8 32]
abbrev cB (n:Nat):V:= .pk .u8 8 32 n

theorem FO {x y k:Nat} (h:x<2^k):x ||| (2^k*y)=x+2^k*y:=by
 rw [Nat.or_comm,← Nat.two_pow_add_eq_or_of_lt h,Nat.add_comm]

theorem U3 {a:Nat} (ha:a<115792089237316195423570985008687907853269984665640564039457584007913129639936) (n:Nat) (hn:n=2∨n=3) {r:Nat→Int→Int}
 (hr: ∀ (i:Nat) (w:Int),r i w=(((((digit 64 a i:Nat):Int) / ((2^n:Nat):Int)).toNat ||| (ak .u64 (w*((2^(64 - n):Nat):Int))).toNat:Nat):Int)):
 (r 0 (digit 64 a 1:Int)).toNat+2^64*((r 1 (digit 64 a 2:Int)).toNat+2^64*((r 2 (digit 64 a 3:Int)).toNat+2^64*((r 3 0).toNat+2^64*0)))=a / 2^n:=by
 obtain ⟨ea,a0,a1,a2,a3⟩:=gM ha
 have key: ∀ (d w:Nat),d<18446744073709551616→w<18446744073709551616→
  (((((d:Nat):Int) / ((2^n:Nat):Int)).toNat ||| (ak .u64 ((w:Int)*((2^(64 - n):Nat):Int))).toNat:Nat):Int).toNat=d / 2^n+2^(64 - n)*(w % 2^n):=by
  intro d w hd hw
  rw [Int.toNat_natCast]
  have e1:(((d:Nat):Int) / ((2^n:Nat):Int)).toNat=d / 2^n:=by
   rw [← Int.natCast_ediv,Int.toNat_natCast]
  have e2:(ak .u64 ((w:Int)*((2^(64 - n):Nat):Int))).toNat=2^(64 - n)*(w % 2^n):=by
   simp only [ak]
   have:((w:Int)*((2^(64 - n):Nat):Int)) % 18446744073709551616=((w*2^(64 - n) % 18446744073709551616:Nat):Int):=by simp
   rw [this,Int.toNat_natCast]
   have hp:18446744073709551616=2^(64 - n)*2^n:=by rw [← Nat.pow_add]; rcases hn with rfl | rfl<;> rfl
   rw [hp,Nat.mul_comm w,Nat.mul_mod_mul_left]
  rw [e1,e2,FO]
  rcases hn with rfl | rfl<;> (simp only [Nat.reducePow,Nat.reduceSub]; clear e1 e2 hr ea; omega)
 have k0:=key _ _ a0 a1
 have k1:=key _ _ a1 a2
 have k2:=key _ _ a2 a3
 have k3:=key _ 0 a3 (by decide)
 rw [hr,hr,hr,hr,k0,k1,k2]
 rw [show ((0:Int))=((0:Nat):Int) from rfl,k3]
 clear key hr k0 k1 k2 k3
 generalize digit 64 a 0=d0 at*
 generalize digit 64 a 1=d1 at*
 generalize digit 64 a 2=d2 at*
 generalize digit 64 a 3=d3 at*
 rcases hn with rfl | rfl
 · simp only [Nat.reducePow,Nat.reduceSub]; omega
 · simp only [Nat.reducePow,Nat.reduceSub]; omega

theorem ai5 {e j:Nat} (hj:j<256):decide ((((((digit 64 e (0+((j:Int).tdiv 64).toNat):Nat):Int) / ((2^min ((j:Int).tmod 64).toNat IntKind.u64.bits:Nat):Int)).toNat &&& 1:Nat):Int)=1)=decide (e / 2^j % 2=1):=by
 have h1:((j:Int).tdiv 64).toNat=j / 64:=by
  rw [Int.tdiv_eq_ediv_of_nonneg (by omega)]; omega
 have h2:min ((j:Int).tmod 64).toNat IntKind.u64.bits=j % 64:=by
  rw [Int.tmod_eq_emod_of_nonneg (by omega)]
  show min ((j:Int) % 64).toNat 64=j % 64
  omega
 have h3: ∀ n:Nat,n &&& 1=n % 2:=fun n=> Nat.and_two_pow_sub_one_eq_mod n 1
 have _:=hj
 rw [h1,h2,h3,← Int.natCast_ediv,Int.toNat_natCast,Nat.zero_add]
 unfold digit
 have e1:e / 2^(64*(j / 64)) % 2^64 / 2^(j % 64) % 2=e / 2^j % 2:=by
  have hlt:j % 64<64:=Nat.mod_lt _ (by decide)
  have e2:(2:Nat)^64=2^(j % 64)*2^(64 - j % 64):=by rw [← Nat.pow_add]; congr 1; omega
  rw [e2,Nat.mod_mul_right_div_self,Nat.div_div_eq_div_mul,← Nat.pow_add,Nat.div_add_mod]
  have e3:(2:Nat)^(64 - j % 64)=2*2^(63 - j % 64):=by rw [← Nat.pow_succ']; congr 1; omega
  rw [e3,Nat.mod_mul_right_mod]
 rw [e1]
 congr 1
 exact propext ⟨fun h=> by omega,fun h=> by omega⟩

theorem acO (a e j:Nat) {c:Nat} (hc:c=gF a (e / 2^(j+1))):(bif decide (e / 2^j % 2=1) then ah (ah c c) a else ah c c)=gF a (e / 2^j):=by
 have hd:e / 2^j=2*(e / 2^(j+1))+e / 2^j % 2:=by
  rw [Nat.pow_succ,← Nat.div_div_eq_div_mul]; omega
 rw [hc]
 generalize e / 2^(j+1)=q at*
 have hb:e / 2^j % 2=0∨e / 2^j % 2=1:=by omega
 rcases hb with hb | hb
 · rw [hb] at hd
   rw [hb,hd]
   simp only [Nat.zero_ne_one,decide_false,cond_false,lZ,l5,Nat.add_zero]
   rw [← Nat.mul_mod,← Nat.pow_add,Nat.two_mul]
 · rw [hb] at hd
   rw [hb,hd]
   simp only [decide_true,cond_true,lZ,l5]
   rw [Nat.mod_mul_mod,Nat.mul_mod,← Nat.mul_mod (a^q),← Nat.pow_add,← Nat.two_mul,Nat.pow_succ]
   simp only [Nat.mod_mul_mod,Nat.mul_mod_mod]

def JM (a e:Nat) (i:Int) (c:Nat):St:=⟨[.aC, .aC, .one (.ptr 0 0), .one (.ptr 1 0), .one (.ptr 2 0), .one (.ptr 4 0),aN i, .aC, .aC, .aC, .aC, .aC, .aC, .aC, .aC, .aC, .aC, .aC, .aC, .aC, .aC, .aC, .aC, .aC, .aC, .aC, .aC, .aC],
 [some ⟨136, .ps [.pk .u64 64 4 a]⟩,some ⟨136, .ps [.pk .u64 64 4 e]⟩,some ⟨136, .ps z4⟩,none,some ⟨136, .ps [.pk .u64 64 4 c]⟩]⟩

theorem kQ {n:Int} (h0: -9223372036854775808≤n) (h1:n<9223372036854775808):dG .i64 n=true:=by
 rw [Lx,vM]
 simp only [IntKind.min,IntKind.max,IntKind.signed,IntKind.bits]
 simp
 omega

noncomputable def adU:List D→Option (List Bool × V)
 | [.n a, .n e]=> some ([],kC (gF a e))
 | _=> none
noncomputable def W9:aj:=spec [yx,yx] adU
noncomputable abbrev Ml:List (FuncId × aj):= [(139,xu),(148,Ic)]
theorem qO:aD Tryz.prog (aK Ml):=(.cons nA (.cons si .nil))
theorem LD:bg Tryz.prog 194 W9:=by
 refine az (cx:=iG Ml) (c:=af Tryz.f194) Tryz.func194 (by kernel_rfl) (by kernel_rfl) rfl ?_
 intro ds chk v vs hF ht he hr base
 unfold adU at hF
 split at hF
 · rename_i a e
   cases hF
   have hvs:vs= [kC a,kC e]:=by simp only [bq,bn,bF,bD,Option.some.injEq] at he; exact he.symm
   subst hvs
   obtain ⟨_,h2,_⟩:=hr
   have he2:=jF h2
   refine bM.items _ _ _ (ae.pre (dB qO) (n:=100) (k:=3) (kt:= [2,3,4,5,6]) (kh:= [0,1,2,4]) (m:=5) (e:= .normal) (st':=JM a e 255 1) (by kernel_rfl) ?_)
   refine ae.loop (id:=0) (by kernel_rfl) (fun m s=> ∃ c,s=JM a e ((m:Int) - 1) c∧m≤256∧c=gF a (e / 2^m)) 256 ⟨1,rfl,Nat.le_refl _,?_⟩ ?_
   · rw [Nat.div_eq_of_lt (by simpa using he2),l5,Nat.pow_zero]
     rfl
   rintro m s ⟨c,rfl,hm,hc⟩
   cases m with
   | zero=>
     refine ae.all (dB qO) (n:=100) (kt:= [2,3,4,5,6]) (kh:= [0,1,2,4]) (m:=5) (e:= .exit 0) (st':=JM a e (-1) c) (by kernel_rfl) ?_
     have:gF a e=c:=by rw [hc]; simp
     rw [this]
     exact Ga (dB qO) (n:=100) (bs0:= []) (by kernel_rfl) (aL.refl _) trivial
   | succ j=>
     have hj:j<256:=hm
     have hi:((j+1:Nat):Int) - 1=(j:Int):=by omega
     rw [hi]
     have hev:evL (iG Ml) 100 (items (aY (af Tryz.f194) 3)) (JM a e (j:Int) c) (iF 0 [2,3,4,5,6] [0,1,2,4] 5)=
      aS [dG .i64 ((j:Int).tdiv 64),decide ((j:Int).tdiv 64<4),decide (0+((j:Int).tdiv 64).toNat<4)]
       (bif decide ((((((digit 64 e (0+((j:Int).tdiv 64).toNat):Nat):Int) / ((2^min ((j:Int).tmod 64).toNat IntKind.u64.bits:Nat):Int)).toNat &&& 1:Nat):Int)=1) then
        aS [dG .i64 ((j:Int) - 1)] (.done .normal (JM a e ((j:Int) - 1) (ah (ah c c) a)))
       else aS [dG .i64 ((j:Int) - 1)] (.done .normal (JM a e ((j:Int) - 1) (ah c c)))):=by kernel_rfl
     have hq:(j:Int).tdiv 64=((j / 64:Nat):Int):=by rw [Int.tdiv_eq_ediv_of_nonneg (by omega)]; simp
     have h4:j / 64<4:=by omega
     have hc1:allT [dG .i64 ((j:Int).tdiv 64),decide ((j:Int).tdiv 64<4),decide (0+((j:Int).tdiv 64).toNat<4)]:=by
      rw [hq]
      refine aF (kQ (by omega) (by omega)) (aF (by rw [decide_eq_true_iff]; omega) (aU (by rw [decide_eq_true_iff]; omega)))
     have hc2:allT [dG .i64 ((j:Int) - 1)]:=aU (kQ (by omega) (by omega))
     rw [ai hc1,ai hc2,ai hc2,ai5 hj] at hev
     have hstep:=acO a e j hc
     cases hb:decide (e / 2^j % 2=1) with
     | true=>
       rw [hb] at hev hstep
       exact ae.all (dB qO) hev ⟨j,Nat.lt_succ_self j,_,rfl,Nat.le_of_lt hj,hstep⟩
     | false=>
       rw [hb] at hev hstep
       exact ae.all (dB qO) hev ⟨j,Nat.lt_succ_self j,_,rfl,Nat.le_of_lt hj,hstep⟩
 · cases hF
end Go.Proofs.YtcgmcohkkigphaaGreat

/-
  Contracts of the program's field of 2^255 - 19: roots, bytes.
-/
namespace Go.Proofs.YtcgmcohkkigphaaGreat
open Go Vx Go.RowKit

abbrev ufe (n:Nat):U:= .ag (.ps [.pk .u64 64 4 n])
abbrev bY (b:Bool):U:= .one (.bool b)

noncomputable def WY:List D→Option (List Bool × V)
 | [.n a, .i n]=> some ([decide (n=2∨n=3)],kC (Ig a n.toNat))
 | _=> none
noncomputable def Tn:aj:=spec [yx,GU] WY
noncomputable abbrev Qg:List (FuncId × aj):= []
theorem GN:aD Tryz.prog (aK Qg):=aD.nil
theorem OE:bg Tryz.prog 195 Tn:=by
 refine az (cx:=dx Qg) (c:=af Tryz.f195) Tryz.func195 (by kernel_rfl) (by kernel_rfl) rfl ?_
 intro ds chk v vs hF ht he hr base
 unfold WY at hF
 split at hF
 · rename_i a n
   cases hF
   have hvs:vs= [kC a,aN n]:=by simp only [bq,bn,bF,bD,Option.some.injEq] at he; exact he.symm
   subst hvs
   have hc:n=2∨n=3:=of_decide_eq_true (ht _ (by simp))
   obtain ⟨h1,_⟩:=hr
   have ha:=jF h1
   rw [Dv]
   rcases hc with rfl | rfl
   · have hd:=U3 ha 2 (.inl rfl) (r:=fun i w=> (((((digit 64 a i:Nat):Int) / ((2^2:Nat):Int)).toNat ||| (ak .u64 (w*((2^(64 - 2):Nat):Int))).toNat:Nat):Int)) (fun _ _=> rfl)
     exact ek (bS GN) (n:=200) (bs0:= []) (by kernel_rfl) (nV hd) trivial
   · have hd:=U3 ha 3 (.inr rfl) (r:=fun i w=> (((((digit 64 a i:Nat):Int) / ((2^3:Nat):Int)).toNat ||| (ak .u64 (w*((2^(64 - 3):Nat):Int))).toNat:Nat):Int)) (fun _ _=> rfl)
     exact ek (bS GN) (n:=200) (bs0:= []) (by kernel_rfl) (nV hd) trivial
 · cases hF

noncomputable def adQ:List D→Option (List Bool × V)
 | [.n a]=> some ([],kC (fI a))
 | _=> none
noncomputable def adP:aj:=spec [yx] adQ
noncomputable abbrev XM:List (FuncId × aj):= [(194,W9),(198,L8),(196,BB),(148,Ic)]
theorem aaf:aD Tryz.prog (aK XM):=(.cons LD (.cons FJ (.cons uK (.cons si .nil))))
theorem V3:bg Tryz.prog 149 adP:=by
 refine az (cx:=dx XM) (c:=af Tryz.f149) Tryz.func149 (by kernel_rfl) (by kernel_rfl) rfl ?_
 intro ds chk v vs hF ht he hr base
 unfold adQ at hF
 split at hF
 · rename_i a
   cases hF
   have hvs:vs= [kC a]:=by simp only [bq,bn,bF,bD,Option.some.injEq] at he; exact he.symm
   subst hvs
   have e:gF a (lI pP (2:Int).toNat)=fI a:=by
    rw [Db,lJ]
    have h:(pP+115792089237316195423570985008687907853269984665640564039457584007913129639936 - (2:Int).toNat) % 115792089237316195423570985008687907853269984665640564039457584007913129639936=pP - 2:=by decide+kernel
    rw [h]
   rw [← e]
   exact ek (bS aaf) (n:=200) (bs0:= []) (by kernel_rfl) (aL.refl _) trivial
 · cases hF

noncomputable def alO:List D→Option (List Bool × V)
 | []=> some ([],kC iP)
 | _=> none
noncomputable def sLI:aj:=spec [] alO
noncomputable abbrev aiJ:List (FuncId × aj):= [(194,W9),(195,Tn),(196,BB),(148,Ic)]
theorem ag9:aD Tryz.prog (aK aiJ):=(.cons LD (.cons OE (.cons uK (.cons si .nil))))
theorem ah0:bg Tryz.prog 191 sLI:=by
 refine az (cx:=dx aiJ) (c:=af Tryz.f191) Tryz.func191 (by kernel_rfl) (by kernel_rfl) rfl ?_
 intro ds chk v vs hF ht he hr base
 unfold alO at hF
 split at hF
 · cases hF
   have hvs:vs= []:=by simp only [bq,Option.some.injEq] at he; exact he.symm
   subst hvs
   rw [abJ]
   exact ek (bS ag9) (n:=200) (bs0:= []) (by kernel_rfl) (aL.refl _) trivial
 · cases hF

def aV (v:V):Out:= .done .ret ⟨[v],[]⟩

def QR (s1 s2 s3:Bool) (x y:Nat):Out:=
 bif s2 then (bif s1 then aV (.dX [ufe x,bY true]) else aV (.dX [ufe x,bY s2]))
 else bif s3 then (bif s1 then aV (.dX [ufe x,bY true]) else aV (.dX [ufe x,bY s2]))
 else (bif s1 then aV (.dX [ufe y,bY true]) else aV (.dX [ufe y,bY s2]))

theorem QS (s1 s2 s3:Bool) (x y:Nat):QR s1 s2 s3 (kZ x) (kZ y)=aV (.dX [ufe (kZ (bif s2 || s3 then x else y)),bY (s1 || s2)]):=by
 cases s1<;> cases s2<;> cases s3<;> rfl

noncomputable def Xb:List D→Option (List Bool × V)
 | [.n u, .n v]=> some ([], .dX [ufe (dU u v),bY (kT u v)])
 | _=> none
noncomputable def Gs:aj:=spec [yx,yx] Xb
noncomputable abbrev Qi:List (FuncId × aj):= [(139,xu),(194,W9),(195,Tn),(144,Aa),(191,sLI),(146,WW),(155,aer),(196,BB)]
theorem TV:aD Tryz.prog (aK Qi):=(.cons nA (.cons LD (.cons OE (.cons o7 (.cons ah0 (.cons LB (.cons Wd (.cons uK .nil))))))))
theorem zH:bg Tryz.prog 142 Gs:=by
 refine az (cx:=dx Qi) (c:=af Tryz.f142) Tryz.func142 (by kernel_rfl) (by kernel_rfl) rfl ?_
 intro ds chk v vs hF ht he hr base
 unfold Xb at hF
 split at hF
 · rename_i u v
   cases hF
   have hvs:vs= [kC u,kC v]:=by simp only [bq,bn,bF,bD,Option.some.injEq] at he; exact he.symm
   subst hvs
   rw [F9,F8]
   refine aB (bS TV) (n:=200) (bs0:= []) (h:=Eq.trans (b:=(fun r=> (fun c=> QR (lq c u) (lq c (fJ u)) (lq c (fJ (ah u iP))) (kZ (ah r iP)) (kZ r)) (ah v (ah r r))) (ah (ah u (ah (ah v v) v)) (gF (ah u (ah (ah (ah (ah v v) v) (ah (ah v v) v)) v)) (Ig pP 3)))) (by kernel_rfl) (QS _ _ _ _ _)) (aL.refl _) trivial
 · cases hF
end Go.Proofs.YtcgmcohkkigphaaGreat
