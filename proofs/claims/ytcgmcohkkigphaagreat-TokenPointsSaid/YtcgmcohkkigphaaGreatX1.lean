/-
  An executor of Go code on values of its own: the definitions. No program stands in it.
-/
import Derived.Calls
import Derived.Below
import Derived.Orders
import Derived.Laws.Sem
import Derived.Laws.StructEq
import Derived.Laws.Pointers
namespace Vx
open Go

inductive LT where
 | pk (k:IntKind) (b c:Nat)
 | int (k:IntKind)
 | bool
 | str
 | sl (ts:List LT)

inductive D where
 | n (x:Nat)
 | i (x:Int)
 | b (x:Bool)
 | s (x:ByteArray)
 | l (x:List (List D))

def D.toN:D→Nat
 | .n x=> x
 | _=> 0
def D.xy:D→Int
 | .i x=> x
 | _=> 0
def D.toB:D→Bool
 | .b x=> x
 | _=> false
def D.toS:D→ByteArray
 | .s x=> x
 | _=> ByteArray.empty
def D.wR:D→List (List D)
 | .l x=> x
 | _=> []

def LT.sz:LT→Nat
 | .pk _ _ c=> c
 | _=> 1
def bP:List LT→Nat
 | []=> 0
 | t::ts=> t.sz+bP ts

def xK:Nat→List LT→List LT→Bool
 | _,[],[]=> true
 | f+1,t::ts,u::us=> (match t,u with
   | .pk k b c, .pk k' b' c'=> decide (k=k') && (Nat.beq b b' && Nat.beq c c')
   | .int k, .int k'=> decide (k=k')
   | .bool, .bool=> true
   | .str, .str=> true
   | .sl a, .sl b=> xK f a b
   | _,_=> false) && xK f ts us
 | _,_,_=> false

theorem lW: ∀ {f:Nat} {a b:List LT},xK f a b=true→a=b
 | _,[],[],_=> rfl
 | 0,_::_,[],h=> by simp [xK] at h
 | 0,[],_::_,h=> by simp [xK] at h
 | 0,_::_,_::_,h=> by simp [xK] at h
 | f+1,[],_::_,h=> by simp [xK] at h
 | f+1,_::_,[],h=> by simp [xK] at h
 | f+1,t::ts,u::us,h=> by
   simp only [xK,Bool.and_eq_true] at h
   obtain ⟨h1,h2⟩:=h
   rw [lW h2]
   congr 1
   cases t<;> cases u<;> simp at h1 ⊢
   · exact h1
   · exact h1
   · exact lW h1

inductive L where
 | aC
 | bool (b:Bool)
 | int (k:IntKind) (n:Int)
 | str (s:ByteArray)
 | ptr (id off:Nat)
 | jA (id size i r:Nat)
 | uH
 | sl (id off len cap:Nat)
 | fG
 | fn (f:FuncId)
 | CV (f:FuncId) (caps:List (Nat × Nat))
 | pk (k:IntKind) (bits cnt n:Nat)
 | row (id s off len mx:Nat)
 | rd (ts:List LT) (x:List (List D))
 | rp (ts:List LT) (x:List D) (off:Nat)

def wR:LT→D→L
 | .pk k b c,d=> .pk k b c d.toN
 | .int k,d=> .int k d.xy
 | .bool,d=> .bool d.toB
 | .str,d=> .str d.toS
 | .sl ts,d=> .rd ts d.wR
def iX:List LT→List D→List L
 | [],_=> []
 | t::ts,x=> wR t (x.headD (.n 0))::iX ts x.tail

inductive C where
 | ps (l:List L)
 | big (size cnt:Nat) (f:Nat→List L)
 | row (ts:List LT) (x:List (List D))
 | dead

inductive U where
 | one (l:L)
 | ag (c:C)

inductive V where
 | aC
 | u (x:U)
 | dX (xs:List U)

abbrev V.one (l:L):V:= .u (.one l)
abbrev V.ag (c:C):V:= .u (.ag c)
abbrev V.int (k:IntKind) (n:Int):V:= .u (.one (.int k n))
abbrev V.bool (b:Bool):V:= .u (.one (.bool b))
abbrev V.pk (k:IntKind) (bits cnt n:Nat):V:= .u (.ag (.ps [.pk k bits cnt n]))

def L.sz:L→Nat
 | .pk _ _ c _=> c
 | _=> 1

def L.flat:L→Bool
 | .ptr _ _=> false
 | .jA _ _ _ _=> false
 | .sl _ _ _ _=> false
 | .row _ _ _ _ _=> false
 | .rd _ _=> false
 | .rp _ _ _=> false
 | .CV _ _=> false
 | _=> true

def EM:List L→Bool
 | []=> true
 | l::ls=> l.flat && EM ls

def Cr:List L→Nat
 | []=> 0
 | l::ls=> l.sz+Cr ls

def C.sz:C→Nat
 | .ps l=> Cr l
 | .big s c _=> s*c
 | .row ts x=> bP ts*x.length
 | .dead=> 0

def C.all:C→Bool
 | .ps _=> true
 | .big .. => true
 | _=> false

def digit (bits n i:Nat):Nat:=n / 2^(bits*i) % 2^bits

def explode:L→List L
 | .pk k b c n=> (List.range c).map fun i=> .int k (digit b n i)
 | l=> [l]

def iO:List L→Nat→Option (List L × List L)
 | ls,0=> some ([],ls)
 | [],_+1=> none
 | l::ls,m+1=>
   if l.sz≤m+1 then
    match iO ls (m+1 - l.sz) with
    | some (a,b)=> some (l::a,b)
    | none=> none
   else some ((explode l).take (m+1),(explode l).drop (m+1)++ls)

structure bQ where
 elem:TypeId
 c:C

abbrev Hp:=List (Option bQ)

structure St where
 t:List V
 h:Hp

def bW:V:= .dX []

def gl (l:List V) (i:Nat):V:=l.getD i bW
def hg (h:Hp) (i:Nat):Option bQ:=h.getD i none

inductive Ex where
 | normal
 | exit (id:Nat)
 | ret

inductive Out where
 | done (e:Ex) (st:St)
 | fail (why:Nat)

inductive Step where
 | val (chk:List Bool) (v:V)
 | br (chk:List Bool) (b:Bool) (v1 v2:V)
 | no

def oneCell:Value→Bool
 | .agg _ | .tuple _=> false
 | _=> true

def jm:IntKind→Int→Bool
 | .u8,n=> decide (0≤n) && decide (n<256)
 | .u16,n=> decide (0≤n) && decide (n<65536)
 | .u32,n=> decide (0≤n) && decide (n<4294967296)
 | .u64,n=> decide (0≤n) && decide (n<18446744073709551616)
 | .i8,n=> decide (-128≤n) && decide (n<128)
 | .i16,n=> decide (-32768≤n) && decide (n<32768)
 | .i32,n=> decide (-2147483648≤n) && decide (n<2147483648)
 | .i64,n=> decide (-9223372036854775808≤n) && decide (n<9223372036854775808)

def ak:IntKind→Int→Int
 | .u8,n=> n % 256
 | .u16,n=> n % 65536
 | .u32,n=> n % 4294967296
 | .u64,n=> n % 18446744073709551616
 | .i8,n=> (n+128) % 256 - 128
 | .i16,n=> (n+32768) % 65536 - 32768
 | .i32,n=> (n+2147483648) % 4294967296 - 2147483648
 | .i64,n=> (n+9223372036854775808) % 18446744073709551616 - 9223372036854775808

def agm:Option Addr→Nat→Nat→L
 | none,0,0=> .fG
 | _,_,_=> .aC

def ofFn (f:Fn) (a b:Array Value):L:=
 match f,a.isEmpty && b.isEmpty with
 | .func f,true=> .fn f
 | _,_=> .aC

def Fw:Value→L
 | .bool b=> .bool b
 | .int k n=> match jm k n with
   | true=> .int k n
   | false=> .aC
 | .string s=> .str s
 | .pointer a=> match a with
   | none=> .uH
   | some _=> .aC
 | .slice a n c=> agm a n c
 | .func f a b=> ofFn f a b
 | _=> .aC

def Dh (l:List Value):Option (List L):=
 match l.all oneCell with
 | true=> some (l.map Fw)
 | false=> none

def VV:Value→V
 | .agg cs=> match Dh cs.toList with
   | some l=> .ag (.ps l)
   | none=> .aC
 | .tuple _=> .aC
 | v=> .one (Fw v)

def fo (t:List V):Operand→V
 | .tmp i=> gl t i
 | .const v=> VV v
 | .func f=> .one (.fn f)
 | .global _=> .aC

def HZ:C→Nat→Option (List Bool × L)
 | .ps [.pk k b c n],off=> some ([decide (off<c)], .int k (digit b n off))
 | .ps l,off=>
   match iO l off with
   | some (_, .pk k b c n::_)=> some ([decide (0<c)], .int k (digit b n 0))
   | some (_,x::_)=> some ([],x)
   | _=> none
 | .big 1 c f,off=>
   match f off with
   | [x]=> match x with
     | .pk .. => none
     | x=> some ([decide (off<c)],x)
   | _=> none
 | _,_=> none

def sF:C→Nat→Nat→Option C
 | .ps l,off,s=>
   match iO l off with
   | some (_,r)=> match iO r s with
     | some (m,_)=> some (.ps m)
     | none=> none
   | none=> none
 | _,_,_=> none

def yl:C→Nat→Nat→List L→Option (List Bool × C)
 | .ps l,off,s,new=>
   if Cr new=s then
    match iO l off with
    | some (a,r)=> match iO r s with
      | some (_,z)=> some ([], .ps (a++new++z))
      | none=> none
    | none=> none
   else none
 | .big 1 c f,off,1,[x]=>
   match x,x.flat with
   | .pk ..,_=> none
   | x,true=> some ([decide (off<c)], .big 1 c fun j=> if j=off then [x] else f j)
   | _,_=> none
 | _,_,_,_=> none

def jG (P:Program) (t:TypeId):Option Nat:=(P.info? t).map (·.size)
def mf (P:Program) (t:TypeId):Option Bool:=
 match P.underlying t with
 | some (.struct _) | some (.array _ _)=> some true
 | some _=> some false
 | none=> none

noncomputable def aA {α:Type} (x:α):α:=Classical.choose (⟨x,rfl⟩: ∃ y,y=x)
theorem aO {α:Type} (x:α):aA x=x:=Classical.choose_spec (⟨x,rfl⟩: ∃ y,y=x)

noncomputable def dG:IntKind→Int→Bool:=aA jm
theorem Lx (k:IntKind) (n:Int):dG k n=jm k n:=by unfold dG; rw [aO]

noncomputable def mkI (sy:Bool) (k:IntKind) (n:Int):Step:=
 match sy && k.signed with
 | true=> .val [dG k n] (.int k n)
 | false=> .val [] (.int k (ak k n))

noncomputable def IP (sy:Bool) (op:BinOp) (k:IntKind) (a:Int) (k':IntKind) (b:Int):Step:=
 match op with
 | .shl=> .val [decide (0≤b)] (.int k (ak k (a*((2^min b.toNat k.bits:Nat):Int))))
 | .shr=> .val [decide (0≤b)] (.int k (a / ((2^min b.toNat k.bits:Nat):Int)))
 | _=>
   match decide (k=k') with
   | false=> .no
   | true=>
   match op with
   | .add=> mkI sy k (a+b)
   | .sub=> mkI sy k (a - b)
   | .mul=> mkI sy k (a*b)
   | .quo=> match k.signed with
     | true=> match sy with
       | true=> .val [decide (b≠0),dG k (a.tdiv b)] (.int k (a.tdiv b))
       | false=> .val [decide (b≠0)] (.int k (ak k (a.tdiv b)))
     | false=> .val [decide (b≠0)] (.int k (a / b))
   | .rem=> match k.signed with
     | true=> .val [decide (b≠0)] (.int k (a.tmod b))
     | false=> .val [decide (b≠0)] (.int k (a % b))
   | .and=> match k.signed with
     | true=> .val [] (.int k (ak k ((BitVec.ofInt k.bits a &&& BitVec.ofInt k.bits b).toNat:Int)))
     | false=> .val [] (.int k ((a.toNat &&& b.toNat:Nat):Int))
   | .or=> match k.signed with
     | true=> .val [] (.int k (ak k ((BitVec.ofInt k.bits a ||| BitVec.ofInt k.bits b).toNat:Int)))
     | false=> .val [] (.int k ((a.toNat ||| b.toNat:Nat):Int))
   | .xor=> match k.signed with
     | true=> .val [] (.int k (ak k ((BitVec.ofInt k.bits a^^^BitVec.ofInt k.bits b).toNat:Int)))
     | false=> .val [] (.int k ((a.toNat^^^b.toNat:Nat):Int))
   | .eql=> .val [] (.bool (decide (a=b)))
   | .neq=> .val [] (.bool (!decide (a=b)))
   | .lss=> .val [] (.bool (decide (a<b)))
   | .leq=> .val [] (.bool (decide (a≤b)))
   | .gtr=> .val [] (.bool (decide (b<a)))
   | .geq=> .val [] (.bool (decide (b≤a)))
   | _=> .no

def jT (k:IntKind) (b:Nat):Nat→List L→Option (Bool × Nat × List L)
 | 0,l=> some (true,0,l)
 | c+1, .int k' a::l=>
   match decide (k=k'),jT k b c l with
   | true,some (ok,n,r)=> some (decide (a<((2^b:Nat):Int)) && ok,a.toNat+2^b*n,r)
   | _,_=> none
 | _+1,_=> none

def dS:List Bool→Bool
 | []=> true
 | [b]=> b
 | b::l=> b && dS l

def YU:Nat→List L→List L→Option (List Bool)
 | _,[],[]=> some []
 | f+1, .int k a::l, .int k' b::m=>
   match decide (k=k'),YU f l m with
   | true,some r=> some (decide (a=b)::r)
   | _,_=> none
 | f+1, .pk k b c n::l, .pk k' b' c' n'::m=>
   match decide (k=k'∧b=b'∧c=c'),YU f l m with
   | true,some r=> some (decide (n=n')::r)
   | _,_=> none
 | f+1, .pk k b c n::l, .int k' a::m=>
   match !k.signed,jT k b c (.int k' a::m) with
   | true,some (ok,n',r)=> match YU f l r with
     | some s=> some ((ok && decide (n=n'))::s)
     | none=> none
   | _,_=> none
 | f+1, .int k' a::m, .pk k b c n::l=>
   match !k.signed,jT k b c (.int k' a::m) with
   | true,some (ok,n',r)=> match YU f r l with
     | some s=> some ((ok && decide (n'=n))::s)
     | none=> none
   | _,_=> none
 | _,_,_=> none

def Kr (t:LT) (l:List L):Option (D × List L):=
 match t,l with
 | .pk k b c, .pk k' b' c' n::r=> match decide (k=k'∧b=b'∧c=c') with
   | true=> some (.n n,r)
   | false=> none
 | .pk k b c, .int k' a::r=> match decide (b=k.bits∧k.signed=false),jT k b c (.int k' a::r) with
   | true,some (_,n,r')=> some (.n n,r')
   | _,_=> none
 | .int k, .int k' a::r=> match decide (k=k') with
   | true=> some (.i a,r)
   | false=> none
 | .bool, .bool t::r=> some (.b t,r)
 | .str, .str t::r=> some (.s t,r)
 | .sl ts, .rd us x::r=> match xK 100 ts us with
   | true=> some (.l x,r)
   | false=> none
 | .sl _, .fG::r=> some (.l [],r)
 | _,_=> none

def bD:LT→D→Option L
 | .pk k b c, .n x=> some (.pk k b c x)
 | .int k, .i x=> some (.int k x)
 | .bool, .b x=> some (.bool x)
 | .str, .s x=> some (.str x)
 | .sl ts, .l x=> some (.rd ts x)
 | _,_=> none

def wL:List LT→List L→Option (List D)
 | [],[]=> some []
 | t::ts,l=> match Kr t l with
   | some (d,r)=> match wL ts r with
     | some ds=> some (d::ds)
     | none=> none
   | none=> none
 | _,_=> none

def bF:List LT→List D→Option (List L × List D)
 | [],ds=> some ([],ds)
 | t::ts,d::ds=> match bD t d,bF ts ds with
   | some l,some (ls,r)=> some (l::ls,r)
   | _,_=> none
 | _,_=> none

def Eh (ts:List LT):Nat→List L→Option (List (List D))
 | 0,_=> some []
 | n+1,l=> match iO l (bP ts) with
   | some (a,r)=> match wL ts a,Eh ts n r with
     | some d,some ds=> some (d::ds)
     | _,_=> none
   | none=> none

def dQ (P:Program):Nat→TypeId→Bool
 | 0,_=> false
 | d+1,t=>
   match P.underlying t,P.info? t with
   | some (.int _),some i=> i.size==1
   | some (.array n e),some i=> dQ P d e && (match P.info? e with | some j=> i.size==n*j.size && j.size !=0 | none=> false)
   | some (.struct fs), some i => !P.stoodInHeld t && fs.toList.all (fun f => f.name != "_" && dQ P d f.type) && (flatFs P fs.toList 0 == some i.size)
   | _,_=> false
 where
 flatFs (P:Program):List Field→Nat→Option Nat
  | [],n=> some n
  | f::fs,n=> match P.info? f.type with
    | some j=> if f.offset==n && j.size !=0 then flatFs P fs (n+j.size) else none
    | none=> none

def QU (P:Program):Nat→TypeId→Option (List LT)
 | 0,_=> none
 | f+1,t=>
   match P.underlying t with
   | some (.int k)=> some [.int k]
   | some .bool=> some [.bool]
   | some .string=> some [.str]
   | some (.slice e)=> match QU P f e with
     | some ts=> some [.sl ts]
     | none=> none
   | some (.array n e)=> match P.underlying e with
     | some (.int k)=> match k.signed with
       | true=> some (List.replicate n (.int k))
       | false=> some [.pk k k.bits n]
     | _=> match QU P f e with
       | some ts=> some (repT n ts)
       | none=> none
   | some (.struct fs)=> tyLTs (QU P f) fs.toList
   | _=> none
 where
 repT:Nat→List LT→List LT
  | 0,_=> []
  | n+1,ts=> ts++repT n ts
 tyLTs (g:TypeId→Option (List LT)):List Field→Option (List LT)
  | []=> some []
  | f::fs=> match g f.type,tyLTs g fs with
    | some a,some b=> some (a++b)
    | _,_=> none
end Vx

/-
  An executor of Go code on values of its own: what each operation does.
-/
namespace Vx
open Go

def ajp (op:UnOp) (x:V):Step:=
 match op,x with
 | .not, .u (.one (.bool b))=> .val [] (.bool !b)
 | .neg, .u (.one (.int k n))=> .val [] (.int k (ak k (0 - n)))
 | .xor, .u (.one (.int k n))=>
   match k.signed with
   | true=> .no
   | false=> .val [] (.int k ((2^k.bits - 1:Nat) - n))
 | _,_=> .no

def ac4:L→Option Bool
 | .uH=> some true
 | .ptr _ _=> some false
 | .jA _ _ _ _=> some false
 | .rp _ _ _=> some false
 | _=> none

def Nz (P:Program) (op:BinOp) (t:TypeId) (a:L):Step:=
 match ac4 a,P.underlying t,op with
 | some r,some (.pointer _), .eql=> .val [] (.bool r)
 | some r,some (.pointer _), .neq=> .val [] (.bool (!r))
 | _,_,_=> .no

def Vg (P:Program) (op:BinOp) (t:TypeId) (i o j q:Nat):Step:=
 match Nat.beq i j,P.underlying t,op with
 | true,some (.pointer e), .eql=> match jG P e with
   | some (_+1)=> .val [] (.bool (Nat.beq o q))
   | _=> .no
 | true,some (.pointer e), .neq=> match jG P e with
   | some (_+1)=> .val [] (.bool (!Nat.beq o q))
   | _=> .no
 | _,_,_=> .no

noncomputable def RJ (sy:Bool) (P:Program) (op:BinOp) (t:TypeId) (x y:V):Step:=
 match x,y with
 | .u (.one (.int k a)), .u (.one (.int k' b))=> IP sy op k a k' b
 | .u (.one (.bool a)), .u (.one (.bool b))=>
   match P.underlying t,op with
   | some .bool, .eql=> .val [] (.bool (a==b))
   | some .bool, .neq=> .val [] (.bool (!(a==b)))
   | _,_=> .no
 | .u (.one (.str a)), .u (.one (.str b))=>
   match op with
   | .add=> .val [decide (a.size+b.size<9223372036854775808)] (.one (.str (a++b)))
   | .eql=> .val [] (.bool (decide (a.toList=b.toList)))
   | .neq=> .val [] (.bool (!decide (a.toList=b.toList)))
   | _=> .no
 | .u (.ag (.ps a)), .u (.ag (.ps b))=>
   match dQ P 20 t && !P.eqGuardType P.depth t && decide (jG P t=some (Cr a)∧mf P t=some true),YU (Cr a+1) a b,op with
   | true,some r, .eql=> .val [] (.bool (dS r))
   | true,some r, .neq=> .val [] (.bool (!dS r))
   | _,_,_=> .no
 | .u (.one (.ptr i o)), .u (.one (.ptr j q))=> Vg P op t i o j q
 | .u (.one a), .u (.one .uH)=> Nz P op t a
 | _,_=> .no

noncomputable def RL (sy:Bool) (P:Program) (s d:TypeId) (x:V):Step:=
 match P.underlying s,P.underlying d,x with
 | some _,some (.int k), .u (.one (.int _ n))=> mkI sy k n
 | _,_,_=> .no

def ui (P:Program) (s:TypeId) (x:V) (f:Nat):Step:=
 match P.underlying s,x with
 | some (.struct fs), .u (.one (.ptr id off))=>
   match fs[f]? with
   | some fl=> match jG P fl.type with
     | some (_+1)=> .val [] (.one (.ptr id (off+fl.offset)))
     | _=> .no
   | none=> .no
 | some (.struct fs), .u (.one (.jA id sz i r))=>
   match fs[f]? with
   | some fl=> match jG P fl.type with
     | some (_+1)=> .val [] (.one (.jA id sz i (r+fl.offset)))
     | _=> .no
   | none=> .no
 | some (.struct fs), .u (.one (.rp ts d off))=>
   match fs[f]? with
   | some fl=> match jG P fl.type with
     | some (_+1)=> .val [] (.one (.rp ts d (off+fl.offset)))
     | _=> .no
   | none=> .no
 | _,_=> .no

def acM (P:Program) (t:TypeId) (c:C) (off:Nat):Step:=
 match mf P t,jG P t with
 | some true,some s=> match sF c off s with
   | some c'=> .val [] (.ag c')
   | none=> .no
 | some false,some _=> match HZ c off with
   | some (chk,l)=> .val chk (.one l)
   | none=> .no
 | _,_=> .no

def KH (P:Program) (s:TypeId) (x:V) (f:Nat):Step:=
 match P.underlying s,x with
 | some (.struct fs), .u (.ag c)=>
   match fs[f]? with
   | some fl=> acM P fl.type c fl.offset
   | none=> .no
 | _,_=> .no

def iT (i:Int) (n:Nat):List Bool:= [decide (0≤i),decide (i<(n:Int))]

def uj (P:Program) (t:TypeId) (x i:V):Step:=
 match P.underlying t,x,i with
 | some (.array n e), .u (.one (.ptr id off)), .u (.one (.int _ i))=>
   match jG P e with
   | some 1=> .val (iT i n) (.one (.ptr id (off+i.toNat)))
   | some s=> .val (iT i n) (.one (match off with | 0=> .jA id s i.toNat 0 | off=> .ptr id (off+i.toNat*s)))
   | none=> .no
 | some (.array n e), .u (.one (.jA id sz j r)), .u (.one (.int _ i))=>
   match jG P e with
   | some s=> .val (iT i n) (.one (.jA id sz j (r+i.toNat*s)))
   | none=> .no
 | some (.slice e), .u (.one (.sl id off len _)), .u (.one (.int _ i))=>
   match jG P e with
   | some 1=> .val (iT i len) (.one (.ptr id (off+i.toNat)))
   | some s=> .val (iT i len) (.one (match off with | 0=> .jA id s i.toNat 0 | off=> .ptr id (off+i.toNat*s)))
   | none=> .no
 | some (.slice e), .u (.one (.row id s off len _)), .u (.one (.int _ i))=>
   match jG P e with
   | some z=> match decide (z=s) with
     | true=> .val (iT i len) (.one (.jA id s (off+i.toNat) 0))
     | false=> .no
   | none=> .no
 | some (.slice e), .u (.one (.rd ts x)), .u (.one (.int _ i))=>
   match jG P e with
   | some z=> match decide (z=bP ts) with
     | true=> .val (iT i x.length) (.one (.rp ts (x.getD i.toNat []) 0))
     | false=> .no
   | none=> .no
 | some (.array n e), .u (.one (.rp ts d off)), .u (.one (.int _ i))=>
   match jG P e with
   | some s=> .val (iT i n) (.one (.rp ts d (off+i.toNat*s)))
   | none=> .no
 | _,_,_=> .no

def KI (P:Program) (t:TypeId) (x i:V):Step:=
 match P.underlying t,x,i with
 | some (.array n e), .u (.ag c), .u (.one (.int _ i))=>
   match jG P e,mf P e with
   | some s,some ag=>
     match ag with
     | true=> match sF c (i.toNat*s) s with
       | some c'=> .val (iT i n) (.ag c')
       | none=> .no
     | false=> match HZ c i.toNat with
       | some (chk,l)=> (match s with | 1=> .val (iT i n++chk) (.one l) | _=> .no)
       | none=> .no
   | _,_=> .no
 | some .string, .u (.one (.str s)), .u (.one (.int _ i))=>
   .val (iT i s.size) (.int .u8 ((s.data.toList.getD i.toNat 0).toNat:Int))
 | _,_,_=> .no

def bnd (d:Int):Option V→Option Int
 | none=> some d
 | some (.u (.one (.int _ n)))=> some n
 | _=> none

def EF (P:Program) (t:TypeId) (x:V) (lo hi mx:Option V):Step:=
 match mx with
 | some _=> .no
 | none=>
   match P.underlying t,x with
   | some (.array n e), .u (.one (.ptr id off))=>
     match jG P e,bnd 0 lo,bnd n hi with
     | some s,some l,some h=> .br [decide (0≤h),decide (h≤(n:Int)),decide (0≤l),decide (l≤h)] (decide (l=(n:Int))) (.one (.sl id off (h.toNat - l.toNat) (n - l.toNat)))
      (.one (.sl id (off+l.toNat*s) (h.toNat - l.toNat) (n - l.toNat)))
     | _,_,_=> .no
   | some (.slice e), .u (.one (.sl id off len cap))=>
     match jG P e,bnd 0 lo,bnd len hi with
     | some s,some l,some h=> .br [decide (0≤h),decide (h≤(cap:Int)),decide (0≤l),decide (l≤h)] (decide (l=(cap:Int))) (.one (.sl id off (h.toNat - l.toNat) (cap - l.toNat)))
      (.one (.sl id (off+l.toNat*s) (h.toNat - l.toNat) (cap - l.toNat)))
     | _,_,_=> .no
   | some (.slice e), .u (.one (.row id s off len cap))=>
     match jG P e,bnd 0 lo,bnd len hi with
     | some z,some l,some h=> match decide (z=s) with
       | true=> .val [decide (0≤h),decide (h≤(cap:Int)),decide (0≤l),decide (l≤h)] (.one (.row id s (off+l.toNat) (h.toNat - l.toNat) (cap - l.toNat)))
       | false=> .no
     | _,_,_=> .no
   | some (.slice e), .u (.one (.rd ts x))=>
     match jG P e,bnd 0 lo,bnd x.length hi with
     | some z,some l,some h=> match decide (z=bP ts) with
       | true=> .val [decide (0≤h),decide (h≤(x.length:Int)),decide (0≤l),decide (l≤h)] (.one (.rd ts ((x.drop l.toNat).take (h.toNat - l.toNat))))
       | false=> .no
     | _,_,_=> .no
   | some (.array n e), .u (.one (.rp ts d off))=>
     match lo,hi,P.underlying e,iO (iX ts d) off with
     | none,none,some (.int k),some (_, .pk k' b c m::_)=> match decide (k=k'∧c=n∧0<n∧n≤maxLen),jG P e with
       | true,some 1=> .val [] (.one (.rd [.int k] ((List.range n).map fun i=> [.i ((digit b m i:Nat):Int)])))
       | _,_=> .no
     | _,_,_,_=> .no
   | some .string, .u (.one (.str s))=>
     match bnd 0 lo,bnd s.size hi with
     | some l,some h=> .val [decide (0≤h),decide (h≤(s.size:Int)),decide (0≤l),decide (l≤h)] (.one (.str (s.extract l.toNat h.toNat)))
     | _,_=> .no
   | _,_=> .no

def Sz:V→V
 | .u (.one (.jA id s i r))=> .u (.one (.ptr id (i*s+r)))
 | x=> x
def Vh (P:Program) (t:TypeId) (x:V) (lo hi mx:Option V):Step:=EF P t (Sz x) lo hi mx

def AO (x:V) (i:Nat):Step:=
 match x with
 | .dX xs=> match xs[i]? with
   | some y=> .val [] (.u y)
   | none=> .no
 | _=> .no

def U.parts:U→Option (List L)
 | .one l=> some [l]
 | .ag (.ps l)=> some l
 | .ag _=> none

def placeOf (P:Program) (t:TypeId) (i:Nat):Option (Nat × Nat):=
 match P.underlying t with
 | some (.struct fs)=> match fs[i]? with
   | some f=> match jG P f.type with
     | some s=> some (f.offset,s)
     | none=> none
   | none=> none
 | some (.array _ e)=> match jG P e with
   | some s=> some (i*s,s)
   | none=> none
 | _=> none

def ND (place:Nat→Option (Nat × Nat)):List L→List (Nat × V)→Option (List L)
 | cells,[]=> some cells
 | cells,(i,v)::r=>
   match place i,v with
   | some (off,s), .u x=> match x.parts with
     | some new=>
       if Cr new=s then
        match iO cells off with
        | some (a,q)=> match iO q s with
          | some (_,z)=> ND place (a++new++z) r
          | none=> none
        | none=> none
       else none
     | none=> none
   | _,_=> none

def Ay (P:Program) (t:TypeId):Option (List L):=
 match P.info? t with
 | some i=> match i.zero with
   | some v=> match Dh v.cells.toList with
     | some l=> match decide (Cr l=i.size) with
       | true=> some l
       | false=> none
     | none=> none
   | none=> none
 | none=> none

def sized (P:Program) (t:TypeId):Bool:=
 match P.underlying t with
 | some (.struct fs)=> fs.toList.all fun f=> (jG P f.type).isSome
 | some (.array _ e)=> (jG P e).isSome
 | _=> false

def KE (P:Program) (t:TypeId) (parts:List (Nat × V)):Step:=
 match Ay P t,sized P t with
 | some z,true=> match ND (placeOf P t) z parts with
   | some l=> .val [] (.ag (.ps l))
   | none=> .no
 | _,_=> .no

noncomputable def ckI (sy:Bool) (n:Nat):Bool:=
 match sy with
 | true=> dG .i64 n
 | false=> jm .i64 n

noncomputable def aby (sy:Bool) (P:Program) (t:TypeId) (x:V):Step:=
 match P.underlying t,x with
 | some .string, .u (.one (.str s))=> .val [ckI sy s.size] (.int .i64 s.size)
 | some (.array n _),_=> .val [jm .i64 n] (.int .i64 n)
 | some (.slice _), .u (.one (.sl _ _ n _))=> .val [ckI sy n] (.int .i64 n)
 | some (.slice _), .u (.one .fG)=> .val [] (.int .i64 0)
 | some (.slice _), .u (.one (.row _ _ _ n _))=> .val [ckI sy n] (.int .i64 n)
 | some (.slice _), .u (.one (.rd _ x))=> .val [ckI sy x.length] (.int .i64 x.length)
 | _,_=> .no

def ahE (x y:V):Step:=
 match x,y with
 | .u (.one (.int k a)), .u (.one (.int k' b))=> match decide (k=k') with
   | true=> .val [] (.int k (bif decide (b > a) then b else a))
   | false=> .no
 | _,_=> .no

def H9 (x:List D):D:=x.headD (.n 0)

def KQ (P:Program) (t:TypeId) (x:V):Step:=
 match P.underlying t,x with
 | some (.array n _), .u (.one (.sl id off len _))=> .val [decide (n≤len)] (.one (.ptr id off))
 | some (.array n e), .u (.one (.row id s off len _))=> match decide (jG P e=some s∧0<n) with
   | true=> .val [decide (n≤len)] (.one (.jA id s off 0))
   | false=> .no
 | some (.array n e), .u (.one (.rd [t] x))=> match decide (jG P e=some t.sz∧0<n) with
   | true=> .val [decide (n≤x.length)] (.one (.rp (List.replicate n t) ((List.range n).map fun j=> H9 (x.getD j [])) 0))
   | false=> .no
 | _,_=> .no

def Kl:List V→Option (List (Nat × Nat))
 | []=> some []
 | .u (.one (.ptr id off))::l=> match Kl l with
   | some r=> some ((id,off)::r)
   | none=> none
 | _=> none

def RN (fn:Fn) (first:List V) (caps:List V):Step:=
 match fn,first with
 | .func f,[]=> match Kl caps with
   | some []=> .val [] (.one (.fn f))
   | some l=> .val [] (.one (.CV f l))
   | none=> .no
 | _,_=> .no

noncomputable def EC (sy:Bool) (P:Program) (op:Op) (e:Operand→V):Step:=
 match op with
 | .move x | .assign x=> .val [] (e x)
 | .pick c a b=> match e c with
   | .u (.one (.bool t))=> .br [] t (e a) (e b)
   | _=> .no
 | .nilCheck x=> match e x with
   | .u (.one (.ptr id off))=> .val [] (.one (.ptr id off))
   | .u (.one (.jA id s i r))=> .val [] (.one (.jA id s i r))
   | .u (.one (.rp ts d off))=> .val [] (.one (.rp ts d off))
   | _=> .no
 | .binOp op t x y _=> RJ sy P op t (e x) (e y)
 | .unOp op _ x=> ajp op (e x)
 | .convert s d x=> RL sy P s d (e x)
 | .fieldAddr s x f=> ui P s (e x) f
 | .field s x f=> KH P s (e x) f
 | .indexAddr t x i=> uj P t (e x) (e i)
 | .index t x i=> KI P t (e x) (e i)
 | .slice t x lo hi mx=> Vh P t (e x) (lo.map e) (hi.map e) (mx.map e)
 | .extract t i=> AO (e t) i
 | .build t ps=> KE P t (ps.toList.map fun p=> (p.1,e p.2))
 | .sliceToArrayPointer t x=> KQ P t (e x)
 | .makeFunc fn first caps=> RN fn (first.toList.map e) (caps.toList.map e)
 | .call { callee:= .builtin .len,args,argTypes }=>
   match args.toList,argTypes.toList with
   | [x],[t]=> aby sy P t (e x)
   | _,_=> .no
 | .call { callee:= .builtin .max,args,argTypes:=_ }=>
   match args.toList with
   | [x,y]=> ahE (e x) (e y)
   | _=> .no
 | _=> .no

def rJ (P:Program) (t:TypeId) (a:V) (g:Nat→Option bQ):Step:=
 match a with
 | .u (.one (.ptr id off))=> match g id with
   | some b=> match mf P t,jG P t with
     | some true,some s=> match b.c,off with
       | .big z c f,0=> if z*c=s then .val [] (.ag (.big z c f)) else .no
       | c,off=> match sF c off s with
         | some c'=> .val [] (.ag c')
         | none=> .no
     | some false,some _=> match HZ b.c off with
       | some (chk,l)=> .val chk (.one l)
       | none=> .no
     | _,_=> .no
   | none=> .no
 | .u (.one (.jA id z i r))=> match g id with
   | some b=> match b.c with
     | .big z' c f=> match decide (z=z') with
       | true=> match mf P t,jG P t with
         | some true,some s=> match sF (.ps (f i)) r s with
           | some c'=> .val [decide (i<c)] (.ag c')
           | none=> .no
         | some false,some _=> match HZ (.ps (f i)) r with
           | some (chk,l)=> .val (decide (i<c)::chk) (.one l)
           | none=> .no
         | _,_=> .no
       | false=> .no
     | .ps l=> match mf P t,jG P t with
       | some true,some s=> match sF (.ps l) (i*z+r) s with
         | some c'=> .val [] (.ag c')
         | none=> .no
       | some false,some _=> match HZ (.ps l) (i*z+r) with
         | some (chk,l)=> .val chk (.one l)
         | none=> .no
       | _,_=> .no
     | .row ts x=> match decide (z=bP ts),mf P t,jG P t with
       | true,some true,some s=> match Nat.ble (r+s) z with
         | true=> match sF (.ps (iX ts (x.getD i []))) r s with
           | some c'=> .val [decide (i<x.length)] (.ag c')
           | none=> .no
         | false=> match ts,r with
           | [u],0=> match decide (s / z*z=s) with
             | true=> .val [decide (i+s / z≤x.length)] (.ag (.ps ((List.range (s / z)).map fun j=> wR u (H9 (x.getD (i+j) [])))))
             | false=> .no
           | _,_=> .no
       | true,some false,some _=> match HZ (.ps (iX ts (x.getD i []))) r with
         | some (chk,l)=> .val (decide (i<x.length)::chk) (.one l)
         | none=> .no
       | _,_,_=> .no
     | .dead=> .no
   | none=> .no
 | .u (.one (.rp ts d off))=> match mf P t,jG P t with
   | some true,some s=> match sF (.ps (iX ts d)) off s with
     | some c'=> .val [] (.ag c')
     | none=> .no
   | some false,some _=> match HZ (.ps (iX ts d)) off with
     | some (chk,l)=> .val chk (.one l)
     | none=> .no
   | _,_=> .no
 | _=> .no

def kM (P:Program) (ro:Nat) (t:TypeId) (a v:V) (g:Nat→Option bQ):Option (List Bool × Nat × bQ):=
 match jG P t,v with
 | some s, .u x=>
   match a with
   | .u (.one (.ptr id off))=> match g id,decide (ro≤id) with
     | some b,true=>
       match x,off with
       | .ag (.big z c f),0=> match decide (z*c=s∧b.c.sz=s∧b.c.all=true) with
         | true=> some ([],id,⟨b.elem, .big z c f⟩)
         | false=> none
       | x,off=> match x.parts with
         | some new=> match yl b.c off s new with
           | some (chk,c)=> some (chk,id,⟨b.elem,c⟩)
           | none=> none
         | none=> none
     | _,_=> none
   | .u (.one (.jA id z i r))=> match g id,decide (ro≤id) with
     | some b,true=> match x.parts with
       | some new=> match b.c with
         | .big z' c f=> match decide (z=z') with
           | true=> match yl (.ps (f i)) r s new with
             | some (chk, .ps q)=> match EM q with
               | true=> some (decide (i<c)::chk,id,⟨b.elem, .big z c fun j=> if j=i then q else f j⟩)
               | false=> none
             | _=> none
           | false=> none
         | .ps l=> match yl (.ps l) (i*z+r) s new with
           | some (chk,c)=> some (chk,id,⟨b.elem,c⟩)
           | none=> none
         | .row ts y=> match decide (z=bP ts),yl (.ps (iX ts (y.getD i []))) r s new with
           | true,some (chk, .ps q)=> match wL ts q with
             | some d=> some (decide (i<y.length)::chk,id,⟨b.elem, .row ts (y.set i d)⟩)
             | none=> none
           | _,_=> none
         | .dead=> none
       | none=> none
     | _,_=> none
   | _=> none
 | _,_=> none

def ado (n:Nat) (z:List L):List L:=
 match n with
 | 0=> []
 | n+1=> z++ado n z

def jb (rw:Bool) (P:Program) (op:Op) (e:Operand→V) (id:Nat):Option (List Bool × V × bQ):=
 match op with
 | .alloc t=> match Ay P t with
   | some z=> some ([], .one (.ptr id 0),⟨t, .ps z⟩)
   | none=> none
 | .box t x=> match e x with
   | .u (.one l)=> match l with
     | .pk .. => none
     | l=> some ([], .one (.ptr id 0),⟨t, .ps [l]⟩)
   | .u (.ag c)=> some ([], .one (.ptr id 0),⟨t,c⟩)
   | _=> none
 | .buildSlice t n ps=> match P.underlying t with
   | some (.slice el)=> match Ay P el,jG P el with
     | some z,some s=> match ND (fun i=> some (i*s,s)) (ado n z) (ps.toList.map fun p=> (p.1,e p.2)) with
       | some l=> match decide (0<s∧Cr z=s∧n*s≤16777216) with
         | true=> some ([], .one (.sl id 0 n n),⟨el, .ps l⟩)
         | false=> none
       | none=> none
     | _,_=> none
   | _=> none
 | .makeSlice t a b=> match P.underlying t,e a,e b with
   | some (.slice el), .u (.one (.int _ n)), .u (.one (.int _ m))=>
     match Ay P el,P.info? el with
     | some z,some i=> match decide (0<i.size∧Cr z=i.size) with
       | true=> match rw with
         | false=> some ([decide (0≤n),decide (n≤m),decide (m*(i.bytes:Int)≤140737488355328),decide (m<9223372036854775808)], .one (.sl id 0 n.toNat m.toNat),⟨el, .ps (ado m.toNat z)⟩)
         | true=> match QU P 20 el with
           | some ts=> match wL ts z with
             | some d=> some ([decide (0≤n),decide (n≤m),decide (m*(i.bytes:Int)≤140737488355328),decide (m<4611686018427387904)], .one (.row id i.size 0 n.toNat m.toNat),⟨el, .row ts (List.replicate m.toNat d)⟩)
             | none=> none
           | none=> none
       | false=> none
     | _,_=> none
   | _,_,_=> none
 | _=> none

def ofStr (s:ByteArray):List (List D):=s.data.toList.map fun b=> [.i (b.toNat:Int)]
def toStr (x:List (List D)):ByteArray:=⟨(x.map fun d=> UInt8.ofNat (H9 d).xy.toNat).toArray⟩

def jO (rw:Bool) (P:Program) (op:Op) (e:Operand→V) (id:Nat):Option (List Bool × V × bQ):=
 match op with
 | .convert s d x=> match P.underlying s,P.underlying d,e x with
   | some _,some (.slice el), .u (.one (.str t))=> match P.underlying el with
     | some (.int .u8)=> some ([decide (t.size≤maxLen)], .one (.row id 1 0 t.size t.size),⟨el, .row [.int .u8] (ofStr t)⟩)
     | _=> none
   | _,_,_=> none
 | op=> jb rw P op e id

def ko (ts:List LT) (g:Nat→Option bQ) (v:V):Option (List Bool × List (List D)):=
 match v with
 | .u (.one .fG)=> some ([],[])
 | .u (.one (.rd us x))=> match xK 100 ts us with
   | true=> some ([],x)
   | false=> none
 | .u (.one (.row id s off len _))=> match g id with
   | some b=> match b.c with
     | .row us x=> match xK 100 ts us && decide (s=bP ts) with
       | true=> some ([decide (off+len≤x.length)],(x.drop off).take len)
       | false=> none
     | _=> none
   | none=> none
 | .u (.one (.sl id off len _))=> match g id with
   | some b=> match b.c with
     | .ps l=> match iO l off with
       | some (_,r)=> match Eh ts len r with
         | some x=> some ([],x)
         | none=> none
       | none=> none
     | _=> none
   | none=> none
 | _=> none

def um (P:Program) (s d:TypeId) (x:V) (g:Nat→Option bQ):Step:=
 match P.underlying s,P.underlying d with
 | some (.slice e),some .string=> match P.underlying e,ko [.int .u8] g x with
   | some (.int .u8),some (chk,y)=> .val chk (.one (.str (toStr y)))
   | _,_=> .no
 | _,_=> .no

def BU (P:Program) (ro:Nat) (c:Call) (e:Operand→V) (g:Nat→Option bQ) (id:Nat):Option (List Bool × V × List (Nat × bQ)):=
 match c.args.toList,c.argTypes.toList with
 | [a,b],[t,u]=> match P.underlying t with
   | some (.slice el)=> match P.info? el,QU P 20 el,Ay P el with
     | some i,some ts,some z=> match decide (0<i.size∧bP ts=i.size∧Cr z=i.size),(match P.underlying u with
      | some (.slice _)=> match decide (t=u) with
        | true=> ko ts g (e b)
        | false=> none
      | some .string=> match e b,ts with
        | .u (.one (.str s)),[.int .u8]=> some ([],ofStr s)
        | _,_=> none
      | _=> none) with
      | true,some (chk,y)=> match e a with
        | .u (.one .fG)=> some (chk++ [decide (y.length*i.bytes≤140737488355328),decide (y.length<4611686018427387904)], .one (.row id i.size 0 y.length y.length),[(id,⟨el, .row ts y⟩)])
        | .u (.one (.row k s off len mx))=> match g k with
          | some bk=> match bk.c with
            | .row us x=> match xK 100 ts us && decide (s=i.size∧off=0∧bk.elem=el) && Nat.ble ro k with
              | true=> some (chk++ [decide (len≤x.length),decide (len≤mx),decide ((len+y.length)*i.bytes≤140737488355328),decide (len+y.length<4611686018427387904)], .one (.row id i.size 0 (len+y.length) (len+y.length)),
               [(k,⟨el, .dead⟩),(id,⟨el, .row ts (x.take len++y)⟩)])
              | false=> none
            | _=> none
          | none=> none
        | .u (.one (.sl k off len cap))=> match g k with
          | some bk=> match bk.c with
            | .ps l=> match decide (off=0∧cap*i.size=Cr l∧bk.elem=el∧len≤cap) && Nat.ble ro k,Eh ts len l with
              | true,some x=> some (chk++ [decide ((len+y.length)*i.bytes≤140737488355328),decide (len+y.length<4611686018427387904),decide (cap<4611686018427387904)], .one (.row id i.size 0 (len+y.length) (len+y.length)),
               [(k,⟨el, .dead⟩),(id,⟨el, .row ts (x++y)⟩)])
              | _,_=> none
            | _=> none
          | none=> none
        | _=> none
      | _,_=> none
     | _,_,_=> none
   | _=> none
 | _,_=> none

def xL (P:Program) (ro:Nat) (c:Call) (e:Operand→V) (g:Nat→Option bQ):Option (List Bool × V × List (Nat × bQ)):=
 match c.args.toList,c.argTypes.toList with
 | [a,b],[t,_]=> match P.underlying t with
   | some (.slice el)=> match P.info? el,QU P 20 el with
     | some i,some ts=> match ko ts g (e b),e a with
       | some (chk,y), .u (.one (.sl k off len _))=> match g k with
         | some bk=> match decide (bP ts=i.size∧y.length≤len) && Nat.ble ro k,yl bk.c off (y.length*i.size) (y.flatMap (iX ts)) with
           | true,some (chk',c')=> some (chk++(decide (y.length<4611686018427387904)::chk'), .int .i64 y.length,[(k,⟨bk.elem,c'⟩)])
           | _,_=> none
         | none=> none
       | _,_=> none
     | _,_=> none
   | _=> none
 | _,_=> none

def rG (P:Program) (ro:Nat) (c:Call) (e:Operand→V) (g:Nat→Option bQ):Option (List Bool × V × List (Nat × bQ)):=
 match c.args.toList,c.argTypes.toList with
 | [a,b],[t,_]=> match P.underlying t with
   | some (.slice el)=> match P.info? el,QU P 20 el with
     | some i,some ts=> match e b,e a with
       | .u (.one (.rd us x)), .u (.one (.sl k off len _))=> match g k with
         | some bk=> match xK 100 ts us && (decide (bP ts=i.size∧len<x.length) && Nat.ble ro k),yl bk.c off (len*i.size) ((x.take len).flatMap (iX ts)) with
           | true,some (chk',c')=> some (decide (len<4611686018427387904)::chk', .int .i64 len,[(k,⟨bk.elem,c'⟩)])
           | _,_=> none
         | none=> none
       | _,_=> none
     | _,_=> none
   | _=> none
 | _,_=> none
def rH (P:Program) (ro:Nat) (c:Call) (e:Operand→V) (g:Nat→Option bQ):Option (List Bool × V × List (Nat × bQ)):=
 match c.args.toList,c.argTypes.toList with
 | [a,b],[t,_]=> match P.underlying t with
   | some (.slice el)=> match P.info? el,QU P 20 el with
     | some i,some ts=> match e b,e a with
       | .u (.one (.rd us x)), .u (.one (.sl k off len _))=> match g k with
         | some bk=> match xK 100 ts us && (decide (bP ts=i.size∧0<len) && Nat.ble ro k),yl bk.c off (len*i.size) (((List.range len).map fun j=> x.getD j []).flatMap (iX ts)) with
           | true,some (chk',c')=> some (decide (len≤x.length)::decide (len<4611686018427387904)::chk', .int .i64 len,[(k,⟨bk.elem,c'⟩)])
           | _,_=> none
         | none=> none
       | _,_=> none
     | _,_=> none
   | _=> none
 | _,_=> none
def ni (P:Program) (ro:Nat) (c:Call) (e:Operand→V) (g:Nat→Option bQ):Option (List Bool × V × List (Nat × bQ)):=
 match xL P ro c e g with
 | some r=> some r
 | none=> rG P ro c e g
def y5 (rw:Bool) (P:Program) (ro:Nat) (c:Call) (e:Operand→V) (g:Nat→Option bQ):Option (List Bool × V × List (Nat × bQ)):=
 match rw with
 | true=> match rH P ro c e g with
   | some r=> some r
   | none=> ni P ro c e g
 | false=> ni P ro c e g

def YY (P:Program) (ro:Nat) (s d:TypeId) (x:V) (g:Nat→Option bQ):Option (List Bool × V × List (Nat × bQ)):=
 match P.underlying s,P.underlying d with
 | some (.slice _),some (.slice el)=> match decide (s=d),P.underlying el,x with
   | true,some (.int .u8), .u (.one (.sl k off len cap))=> match g k with
     | some b=> match Nat.ble ro k && (match b.c with
      | .dead=> false
      | _=> true) with
      | true=> some ([], .u (.one (.sl k off len cap)),[(k,b)])
      | false=> none
     | none=> none
   | _,_,_=> none
 | _,_=> none

def Ny (rw:Bool) (P:Program) (ro:Nat) (c:Call) (e:Operand→V) (g:Nat→Option bQ) (id:Nat):Option (List Bool × V × List (Nat × bQ)):=
 match c.callee with
 | .builtin .append=> BU P ro c e g id
 | .builtin .copy=> y5 rw P ro c e g
 | _=> none
end Vx

/-
  An executor of Go code on values of its own: regions, code, calls.
-/
namespace Vx
open Go

abbrev aj:=Nat→List (V × List (Nat × bQ))→Option (List Bool × V × List bQ)

structure Cx where
 P:Program
 ro:Nat
 sy:Bool:=false
 rw:Bool:=false
 il:FuncId→Option Func:=fun _=> none
 js:FuncId→Option (List V × Hp × V × Hp):=fun _=> none
 ex:FuncId→Bool:=fun _=> false
 tab:FuncId→Option aj

inductive Eff where
 | st (s:Step)
 | wr (chk:List Bool) (id:Nat) (b:bQ)
 | nw (chk:List Bool) (v:V) (bs:List bQ)
 | mv (chk:List Bool) (v:V) (us:List (Nat × bQ))
 | no

def fE:V→Option Nat
 | .u (.one (.ptr id _))=> some id
 | .u (.one (.jA id _ _ _))=> some id
 | .u (.one (.sl id _ _ _))=> some id
 | .u (.one (.row id _ _ _ _))=> some id
 | _=> none

def ain:L→List Nat
 | .ptr id _=> [id]
 | .jA id _ _ _=> [id]
 | .sl id _ _ _=> [id]
 | .row id _ _ _ _=> [id]
 | .CV _ caps=> caps.map (·.1)
 | _=> []
def aio:List L→List Nat
 | []=> []
 | l::ls=> ain l++aio ls
def xn:C→List Nat
 | .ps l=> aio l
 | _=> []
def aip:U→List Nat
 | .one l=> ain l
 | .ag c=> xn c
def adj:List U→List Nat
 | []=> []
 | u::us=> aip u++adj us
def adk:V→List Nat
 | .aC=> []
 | .u x=> aip x
 | .dX xs=> adj xs

def reach (g:Nat→Option bQ):Nat→List Nat→List (Nat × bQ)
 | 0,_=> []
 | f+1,ids=> ids.flatMap fun i=> match g i with
   | some b=> (i,b)::reach g f (xn b.c)
   | none=> []

def oJ (g:Nat→Option bQ) (v:V):Option (V × List (Nat × bQ)):=
 match fE v with
 | none=> some (v,reach g 5 (adk v))
 | some id=> match g id with
   | some b=> some (v,(id,b)::reach g 5 (xn b.c))
   | none=> none

def zu (g:Nat→Option bQ) (v:V):Bool:=
 match fE v with
 | none=> !(adk v).isEmpty
 | some id=> match g id with
   | some b=> !(xn b.c).isEmpty
   | none=> false

def fM (g:Nat→Option bQ):List V→Option (List (V × List (Nat × bQ)))
 | []=> some []
 | v::l=> match oJ g v,fM g l with
   | some a,some r=> some (a::r)
   | _,_=> none

def callee (e:Operand→V):Callee→Option FuncId
 | .value x=> match e x with
   | .u (.one (.fn f))=> some f
   | _=> none
 | _=> none

def jK (cx:Cx) (e:Operand→V) (g:Nat→Option bQ) (id:Nat) (c:Call):Eff:=
 match callee e c.callee with
 | some f=> match cx.tab f with
   | some sp=> match fM g (c.args.toList.map e) with
     | some as=> match sp id as with
       | some (chk,v,bs)=> match bs with
         | []=> .nw chk v []
         | [b]=> .nw chk v [b]
         | _=> .no
       | none=> .no
     | none=> .no
   | none=> .no
 | none=> .no

def isLen:Callee→Bool
 | .builtin .len=> true
 | .builtin .max=> true
 | _=> false

inductive Cl where
 | p | r | w | a | x | m
 deriving DecidableEq

def abO:Callee→Bool
 | .builtin .append=> true
 | .builtin .copy=> true
 | _=> false

def cls (P:Program):Op→Cl
 | .load _ _=> .r
 | .store _ _ _=> .w
 | .alloc _ | .box _ _ | .buildSlice _ _ _ | .makeSlice _ _ _=> .a
 | .convert s d _=> match P.underlying s with
   | some (.slice _)=> match P.underlying d with
     | some (.slice _)=> .m
     | _=> .r
   | some .string=> match P.underlying d with
     | some (.slice _)=> .a
     | _=> .p
   | _=> .p
 | .call c=> match isLen c.callee with
   | true=> .p
   | false=> match abO c.callee with
     | true=> .m
     | false=> .x
 | _=> .p

def He (cx:Cx) (op:Op) (e:Operand→V) (g:Nat→Option bQ) (id:Nat):Eff:=
 match op with
 | .call c=> jK cx e g id c
 | _=> .no

def Es (cx:Cx) (op:Op) (e:Operand→V) (g:Nat→Option bQ):Eff:=
 match op with
 | .store t a v=> match kM cx.P cx.ro t (e a) (e v) g with
   | some (chk,id,b)=> .wr chk id b
   | none=> .no
 | _=> .no

def yV (cx:Cx) (op:Op) (e:Operand→V) (g:Nat→Option bQ):Eff:=
 match op with
 | .load t a=> .st (rJ cx.P t (e a) g)
 | .convert s d x=> .st (um cx.P s d (e x) g)
 | _=> .no

def Ku (cx:Cx) (op:Op) (e:Operand→V) (g:Nat→Option bQ) (id:Nat):Eff:=
 match op with
 | .call c=> match Ny cx.rw cx.P cx.ro c e g id with
   | some (chk,v,us)=> .mv chk v us
   | none=> .no
 | .convert s d x=> match YY cx.P cx.ro s d (e x) g with
   | some (chk,v,us)=> .mv chk v us
   | none=> .no
 | _=> .no

def Hd (cx:Cx) (op:Op) (e:Operand→V) (id:Nat):Eff:=
 match jO cx.rw cx.P op e id with
 | some (chk,v,b)=> .nw chk v [b]
 | none=> .no

noncomputable def oG (cx:Cx) (op:Op) (e:Operand→V) (g:Nat→Option bQ) (id:Nat):Eff:=
 match cls cx.P op with
 | .p=> .st (EC cx.sy cx.P op e)
 | .r=> yV cx op e g
 | .w=> Es cx op e g
 | .a=> Hd cx op e id
 | .x=> He cx op e g id
 | .m=> Ku cx op e g id

def slots (P:Program) (op:Op):Nat:=
 match cls P op with
 | .a=> 1
 | .x=> 1
 | .m=> 1
 | _=> 0

def gI (P:Program):List Oper→Nat
 | []=> 0
 | o::l=> slots P o.op+gI P l

def bR (t:List V) (d:Option Tmp) (v:V):List V:=
 match d with
 | some d=> t.set d v
 | none=> t

def O4 (h:Hp) (id:Nat):List bQ→Hp
 | []=> h
 | b::_=> h.set id (some b)

def dE (h:Hp):List (Nat × bQ)→Hp
 | []=> h
 | (i,b)::us=> dE (h.set i (some b)) us

def aS:List Bool→Out→Out
 | [],k=> k
 | b::l,k=> bif b then aS l k else .fail 1

noncomputable def Tk (cx:Cx) (o:Oper) (id:Nat) (st:St) (κ:St→Out):Out:=
 match oG cx o.op (fo st.t) (hg st.h) id with
 | .st (.val chk v)=> aS chk (κ ⟨bR st.t o.dst v,st.h⟩)
 | .st (.br chk b v w)=> aS chk (bif b then κ ⟨bR st.t o.dst v,st.h⟩ else κ ⟨bR st.t o.dst w,st.h⟩)
 | .wr chk i b=> aS chk (κ ⟨bR st.t o.dst bW,st.h.set i (some b)⟩)
 | .nw chk v bs=> aS chk (κ ⟨bR st.t o.dst v,O4 st.h id bs⟩)
 | .mv chk v us=> aS chk (κ ⟨bR st.t o.dst v,dE st.h us⟩)
 | _=> .fail 2

def CU (e:Operand→V):Callee→Option (FuncId × List (Nat × Nat))
 | .value x=> match e x with
   | .u (.one (.fn f))=> some (f,[])
   | .u (.one (.CV f caps))=> some (f,caps)
   | _=> none
 | _=> none

def fu (cx:Cx) (e:Operand→V):Op→Option (FuncId × List V)
 | .call c=> match CU e c.callee with
   | some (f,caps)=> match cx.il f with
     | some _=> some (f,c.args.toList.map e++caps.map fun p=> .one (.ptr p.1 p.2))
     | none=> none
   | none=> none
 | _=> none

abbrev IL:=FuncId→List V→Hp→(V→Hp→Out)→Out

def kr:Hp→Hp→Bool
 | [],_=> true
 | none::a,none::b=> kr a b
 | some _::a,_::b=> kr a b
 | _,_=> false

def ald:LT→Bool
 | .sl _=> false
 | _=> true

def U4:List LT→Bool
 | []=> true
 | t::ts=> ald t && U4 ts

def SF (qm:Bool) (keep:Nat→Bool):L→Bool
 | .ptr id _=> keep id
 | .jA id _ _ _=> keep id
 | .sl id _ _ _=> keep id
 | .row id _ _ _ _=> keep id
 | .rd _ _=> !qm
 | .rp _ _ _=> !qm
 | .CV _ caps=> caps.all fun p=> keep p.1
 | _=> true

def Zr (qm:Bool) (keep:Nat→Bool):List L→Bool
 | []=> true
 | l::ls=> SF qm keep l && Zr qm keep ls

def okC (qm:Bool) (keep:Nat→Bool):C→Bool
 | .ps l=> Zr qm keep l
 | .big .. => true
 | .row ts _=> !qm || U4 ts
 | .dead=> true

def okU (qm:Bool) (keep:Nat→Bool):U→Bool
 | .one l=> SF qm keep l
 | .ag c=> okC qm keep c

def agp (qm:Bool) (keep:Nat→Bool):List U→Bool
 | []=> true
 | u::us=> okU qm keep u && agp qm keep us

def okV (qm:Bool) (keep:Nat→Bool):V→Bool
 | .aC=> true
 | .u x=> okU qm keep x
 | .dX xs=> agp qm keep xs

def nu:C→Bool
 | .dead=> false
 | _=> true

def touch (g:Nat→Option bQ):Nat→List Nat→List Nat
 | 0,_=> []
 | f+1,ids=> ids.flatMap fun i=> i::(match g i with
   | some b=> touch g f (xn b.c)
   | none=> [])
def yz (g:Nat→Option bQ) (v:V):List Nat:=
 match fE v with
 | none=> touch g 5 (adk v)
 | some id=> id::(match g id with
   | some b=> touch g 5 (xn b.c)
   | none=> [])
def eP (K:List Nat) (i:Nat):Bool:=K.any (Nat.beq i)
def gZ (K:List Nat):Nat→Hp→Hp
 | _,[]=> []
 | i,b::h=> (bif eP K i then b else none)::gZ K (i+1) h
def fK (K:List Nat):Nat→Hp→Hp→Hp
 | _,[],m=> m
 | _,_::_,[]=> []
 | i,b::h,c::m=> (bif eP K i then c else b)::fK K (i+1) h m
def bz (g:Nat→Option bQ) (as:List V):List Nat:=as.flatMap (yz g)
def iQ (ro:Nat) (h:Hp) (K:List Nat) (as:List V):Bool:=Nat.beq ro 0 && h.all (fun b=> match b with
 | some b=> nu b.c
 | none=> true) && K.all (fun k=> match hg h k with
 | some b=> okC false (eP K) b.c
 | none=> false) && as.all (okV false (eP K))

noncomputable def xx (cx:Cx) (I:IL) (o:Oper) (id:Nat) (st:St) (κ:St→Out):Out:=
 match fu cx (fo st.t) o.op with
 | some (f,as)=> match cx.ex f with
   | false=> I f as st.h fun v h=> match kr st.h h with
     | true=> κ ⟨bR st.t o.dst v,h⟩
     | false=> .fail 30
   | true=> match iQ cx.ro st.h (bz (hg st.h) as) as with
     | true=> I f as (gZ (bz (hg st.h) as) 0 st.h) fun v h=> match kr (gZ (bz (hg st.h) as) 0 st.h) h with
       | true=> κ ⟨bR st.t o.dst v,fK (bz (hg st.h) as) 0 st.h h⟩
       | false=> .fail 30
     | false=> .fail 35
 | none=> Tk cx o id st κ

def bO (all:List Oper) (o:Oper) (t:List V):Option Bool:=
 match o.guard with
 | none=> some true
 | some (j,want)=> match all[j]? with
   | some q=> match q.dst with
     | some d=> match gl t d with
       | .u (.one (.bool b))=> some (b==want)
       | .dX _=> some false
       | _=> none
     | none=> none
   | none=> none

def looks (P:Program):Op→List Operand
 | .load _ a=> [a]
 | .store _ a _=> [a]
 | .convert s _ x=> match P.underlying s with
   | some (.slice _)=> [x]
   | _=> []
 | .call c=> match isLen c.callee with
   | true=> []
   | false=> c.args.toList
 | _=> []

def yB (P:Program) (t:List V) (o:Oper):List Nat:=(looks P o.op).filterMap fun x=> fE (fo t x)

def nX:Nat:=1000000007
def eU (P:Program) (e:Operand→V) (g:Nat→Option bQ) (op:Op):Bool:=
 match cls P op with
 | .x=> match op with
   | .call c=> c.args.toList.any fun x=> zu g (e x)
   | _=> false
 | _=> false
def eB (P:Program) (e:Operand→V) (g:Nat→Option bQ) (op:Op):List Nat:=
 match cls P op with
 | .x=> match op with
   | .call c=> c.args.toList.flatMap fun x=> yz g (e x)
   | _=> []
 | _=> []
def Ob (g:Nat→Option bQ) (k:Nat):Bool:=match g k with
 | some _=> true
 | none=> false
def zq:Nat:=1000000009
def mV:Nat:=1000000021
def mJ (cx:Cx) (st:St) (o:Oper):List Nat:=match fu cx (fo st.t) o.op with
 | some (f,as)=> bif cx.ex f then mV::(bz (hg st.h) as++yB cx.P st.t o) else nX::yB cx.P st.t o
 | none=> bif eU cx.P (fo st.t) (hg st.h) o.op then
  (bif (eB cx.P (fo st.t) (hg st.h) o.op).all (Ob (hg st.h)) then zq::(eB cx.P (fo st.t) (hg st.h) o.op++yB cx.P st.t o) else nX::yB cx.P st.t o)
  else yB cx.P st.t o

noncomputable def pM (cx:Cx) (I:IL) (all:List Oper):List Oper→Nat→St→List (List Nat)→(List (List Nat)→St→Out)→Out
 | [],_,st,tr,κ=> κ tr st
 | o::r,id,st,tr,κ=>
   match bO all o st.t with
   | some g=> bif g then xx cx I o id st (fun s=> pM cx I all r (id+slots cx.P o.op) s (tr++ [mJ cx st o]) κ)
     else pM cx I all r (id+slots cx.P o.op) ⟨bR st.t o.dst bW,st.h⟩ (tr++ [mJ cx st o]) κ
   | none=> .fail 3

def ja (e:Edge):Option Nat:=
 match e.ground with
 | .textOnly _=> none
 | .gcOnly _=> none
 | _=> some e.on

def xE:List Oper→List Nat→List Nat
 | [],acc=> acc
 | o::r,acc=> xE r (acc++ [o.after.toList.foldl (fun s e=> match ja e with
    | some j=> s ||| 2^j ||| acc.getD j 0
    | none=> s) 0])

def wY:Cl→Cl→Bool
 | .p,_=> true
 | _, .p=> true
 | .r, .w=> false
 | .w, .r=> false
 | .w, .w=> false
 | .x, .w=> false
 | .w, .x=> false
 | .m,_=> false
 | _, .m=> false
 | _,_=> true

def Df (o:Op):List Nat:=o.operands.toList.filterMap fun
 | .tmp t=> some t
 | _=> none

def readsOf (all:List Oper) (o:Oper):List Nat:=
 (match o.guard with
  | some (j,_)=> match all[j]? with
    | some q=> q.dst.toList
    | none=> []
  | none=> [])++Df o.op

def far (A B:List Nat):Bool:=A.all fun i=> B.all fun j=> !(Nat.beq i j)

def kP:Op→Bool
 | .box _ _=> false
 | _=> true
def uE (P:Program) (A:List Nat) (q:Oper):Bool:=match A.any (Nat.beq nX) with
 | true=> match cls P q.op with
   | .p=> true
   | _=> false
 | false=> (match A.any (Nat.beq mV) with
   | true=> match cls P q.op with
     | .p=> true
     | .r=> true
     | .a=> kP q.op
     | _=> false
   | false=> true) && (match A.any (Nat.beq zq) with
   | true=> match cls P q.op with
     | .w=> false
     | .m=> false
     | _=> true
   | false=> true)
def acC (base:Nat) (A B:List Nat):Bool:=bif B.any (Nat.beq mV) then A.all fun k=> Nat.blt k base else true

def alg (A B:List Nat):Bool:=bif A.any (Nat.beq mV) || B.any (Nat.beq mV) then far A B else true

def apart (P:Program) (A B:List Nat) (all:List Oper) (o q:Oper):Bool:=
 uE P A q && uE P B o && alg A B && (wY (cls P o.op) (cls P q.op) || (far A B && decide (cls P o.op≠ .m) && decide (cls P q.op≠ .m))) &&
 (match o.dst with
  | some d=> !(readsOf all q).contains d && !(q.dst==some d)
  | none=> true) &&
 (match q.dst with
  | some d=> !(readsOf all o).contains d
  | none=> true)

def ZC (P:Program):Nat→List Oper→List Nat
 | _,[]=> []
 | b,o::l=> b::ZC P (b+slots P o.op) l

def lu (P:Program) (base:Nat) (tr:List (List Nat)) (ops:List Oper):Bool:=
 let b:=xE ops []
 let w:=ZC P base ops
 ops.zipIdx.all fun (o,i)=>
  o.after.toList.all (fun e=> match ja e with
   | some j=> j<i
   | none=> true) &&
  ops.zipIdx.all fun (q,j)=> !(j<i) || (b.getD i 0).testBit j || (apart P (tr.getD i []) (tr.getD j []) ops o q && (Nat.beq (slots P q.op) 0 || far (tr.getD i []) [w.getD j 0]) && acC base (tr.getD i []) (tr.getD j []))

noncomputable def qp (cx:Cx) (I:IL) (ops:Array Oper) (draw:Bool) (st:St) (κ:St→Out):Out:=
 pM cx I ops.toList ops.toList st.h.length ⟨st.t,st.h++List.replicate (gI cx.P ops.toList) none⟩ [] fun tr s=>
  bif !draw || lu cx.P st.h.length tr ops.toList then κ s else .fail 4

def RP (P:Program) (st:St):ResultVar→Option U
 | .tmp t=> match gl st.t t with
   | .u x=> some x
   | _=> none
 | .cell a t=> match rJ P t (gl st.t a) (hg st.h) with
   | .val [] (.u x)=> some x
   | _=> none

def EE (P:Program) (st:St):List ResultVar→Option (List U)
 | []=> some []
 | r::l=> match RP P st r,EE P st l with
   | some x,some xs=> some (x::xs)
   | _,_=> none

def ED (P:Program) (fn:Func) (st:St):Option V:=
 match EE P st fn.results.toList with
 | some [x]=> some (.u x)
 | some xs=> some (.dX xs)
 | none=> none

def t0 (fn:Func) (args:List V):List V:=args++List.replicate (fn.ntmps - args.length) bW

def zi (P:Program) (fn:Func) (κ:V→Hp→Out) (e:Ex) (s:St):Out:=
 match e with
 | .exit _=> .fail 31
 | _=> match ED P fn s with
   | some v=> κ v s.h
   | none=> .fail 32

noncomputable def eqS:List V→Hp→List V→Hp→Bool:=aA fun a h a' h'=> @decide (a=a'∧h=h') (Classical.propDecidable _)
theorem Ew (a:List V) (h:Hp):eqS a h a h=true:=by
 unfold eqS
 rw [aO]
 exact @decide_eq_true _ (Classical.propDecidable _) ⟨rfl,rfl⟩
theorem ajm {a a':List V} {h h':Hp} (he:eqS a h a' h'=true):a=a'∧h=h':=by
 unfold eqS at he
 rw [aO] at he
 exact @of_decide_eq_true _ (Classical.propDecidable _) he

noncomputable def ev (cx:Cx):Nat→Code→St→(Ex→St→Out)→Out
 | 0,_,_,_=> .fail 5
 | n+1,c,st,κ=>
   match c with
   | .skip=> κ .normal st
   | .region _ ops draw=> qp cx (fun f as h κ=> match cx.js f with
    | some r=> aS [eqS as h r.1 r.2.1] (κ r.2.2.1 r.2.2.2)
    | none=> match cx.il f with
      | some fn=> match fn.body with
        | some c=> ev cx n c ⟨t0 fn as,h⟩ (zi cx.P fn κ)
        | none=> .fail 33
      | none=> .fail 34) ops draw st (κ .normal)
   | .seq a b=> ev cx n a st fun e s=> match e with
     | .normal=> ev cx n b s κ
     | e=> κ e s
   | .cond c x y=> match fo st.t c with
     | .u (.one (.bool b))=> bif b then ev cx n x st κ else ev cx n y st κ
     | _=> .fail 6
   | .block id b=> ev cx n b st fun e s=> match e with
     | .exit j=> bif j==id then κ .normal s else κ (.exit j) s
     | e=> κ e s
   | .loop b=> ev cx n b st fun e s=> match e with
     | .normal=> ev cx n (.loop b) s κ
     | e=> κ e s
   | .exit id=> κ (.exit id) st
   | .ret=> κ .ret st
   | _=> .fail 7

inductive Res where
 | ok (v:V) (h:List (Option bQ))
 | no (why:Nat)


end Vx

/-
  An executor of Go code on values of its own: what its values stand for in the model; small lemmas.
-/
namespace Vx
open Go Go.RowKit

structure Sg where
 m:Nat→Option Nat
 z:Nat→Nat
 w:World
 im:Nat→Prop
instance:CoeFun Sg (fun _=> Nat→Option Nat):=⟨Sg.m⟩

def eH (W:World) (b o:Nat) (ys:List Value):Prop:= ∀ j v,ys[j]? =some v→W.cell? ⟨b,o+j,none⟩=some v

mutual
def eF (W:World) (im:Nat→Prop):LT→D→List Value→Prop
 | .pk k b c,d,xs=> xs=(List.range c).map (fun i=> Value.int k (digit b d.toN i))∧d.toN<2^(b*c)∧k.signed=false∧b≤k.bits
 | .int k,d,xs=> xs= [.int k d.xy]∧jm k d.xy=true
 | .bool,d,xs=> xs= [.bool d.toB]
 | .str,d,xs=> xs= [.string d.toS]
 | .sl ts,d,xs=> ∃ a cap,xs= [.slice a d.wR.length cap]∧(d.wR.length≤cap∧cap≤maxLen)∧(d.wR= []∨ ∃ b o,a=some ⟨b,o,none⟩∧im b∧ ∀ i e,d.wR[i]? =some e→ ∃ ys,aT W im ts e ys∧eH W b (o+i*bP ts) ys)
def aT (W:World) (im:Nat→Prop):List LT→List D→List Value→Prop
 | [],_,xs=> xs= []
 | t::ts,e,xs=> ∃ ys zs,xs=ys++zs∧eF W im t (e.headD (.n 0)) ys∧aT W im ts e.tail zs
end


inductive eD {α β:Type} (R:α→β→Prop):List α→List β→Prop where
 | nil:eD R [] []
 | cons {a:α} {b:β} {l:List α} {m:List β}:R a b→eD R l m→eD R (a::l) (b::m)

def dV (σ:Sg):L→List Value→Prop
 | .aC,xs=> ∃ x,xs= [x]∧oneCell x=true
 | .bool b,xs=> xs= [.bool b]
 | .int k n,xs=> xs= [.int k n]∧jm k n=true
 | .str s,xs=> xs= [.string s]
 | .ptr id off,xs=> ∃ b,σ id=some b∧xs= [.pointer (some ⟨b,off,none⟩)]
 | .jA id sz i r,xs=> ∃ b,σ id=some b∧xs= [.pointer (some ⟨b,i*sz+r,none⟩)]
 | .uH,xs=> xs= [.pointer none]
 | .sl id off len cap,xs=> ∃ b,σ id=some b∧xs= [.slice (some ⟨b,off,none⟩) len cap]
 | .fG,xs=> xs= [.slice none 0 0]
 | .fn f,xs=> xs= [.func (.func f) #[] #[]]
 | .CV f caps,xs=> ∃ vals:List Value,xs= [.func (.func f) #[] vals.toArray]∧eD (fun (p:Nat × Nat) v=> ∃ b,σ p.1=some b∧v= .pointer (some ⟨b,p.2,none⟩)) caps vals
 | .pk k b c n,xs=> xs=(List.range c).map (fun i=> Value.int k (digit b n i))∧n<2^(b*c)∧k.signed=false∧b≤k.bits
 | .row id s off len mx,xs=> (∃ b cap,σ id=some b∧(off+cap)*s=σ.z b∧len≤mx∧mx≤cap∧off+cap≤maxLen∧xs= [.slice (some ⟨b,off*s,none⟩) len cap])∨
  (len=0∧mx=0∧((off=0∧xs= [.slice none 0 0])∨(0<off∧ ∃ a,xs= [.slice a 0 0])))
 | .rd ts x,xs=> eF σ.w σ.im (.sl ts) (.l x) xs
 | .rp ts d off,xs=> ∃ b o ys,xs= [.pointer (some ⟨b,o+off,none⟩)]∧σ.im b∧aT σ.w σ.im ts d ys∧eH σ.w b o ys

def aX (σ:Sg):List L→List Value→Prop
 | [],xs=> xs= []
 | l::ls,xs=> ∃ ys zs,xs=ys++zs∧dV σ l ys∧aX σ ls zs

def fD (σ:Sg):C→List Value→Prop
 | .ps l,xs=> aX σ l xs
 | .big s c f,xs=> xs.length=s*c∧ ∀ i,i<c→aX σ (f i) ((xs.drop (i*s)).take s)∧EM (f i)=true
 | .row ts x,xs=> bP ts*x.length≤xs.length∧(∀ i e,x[i]? =some e→aT σ.w σ.im ts e ((xs.drop (i*bP ts)).take (bP ts)))∧ ∀ v∈xs,oneCell v=true
 | .dead,_=> True

def mP (σ:Sg):U→Value→Prop
 | .one l,x=> oneCell x=true∧dV σ l [x]
 | .ag c,x=> ∃ xs:List Value,x= .agg xs.toArray∧fD σ c xs

def aQ (σ:Sg):V→Value→Prop
 | .aC,_=> True
 | .u y,x=> mP σ y x
 | .dX ys,x=> ∃ xs:List Value,x= .tuple xs.toArray∧eD (mP σ) ys xs

def Sub (σ τ:Sg):Prop:=(∀ i b,σ i=some b→τ i=some b∧τ.z b=σ.z b)∧τ.w=σ.w∧τ.im=σ.im

theorem Sub.refl (σ:Sg):Sub σ σ:=⟨fun _ _ h=> ⟨h,rfl⟩,rfl,rfl⟩
theorem Sub.trans {a b c:Sg} (h:Sub a b) (k:Sub b c):Sub a c:=
 ⟨fun i x hx=> ⟨(k.1 i x (h.1 i x hx).1).1,(k.1 i x (h.1 i x hx).1).2.trans (h.1 i x hx).2⟩,k.2.1.trans h.2.1,k.2.2.trans h.2.2⟩
theorem Sub.get {σ τ:Sg} (h:Sub σ τ) {i b:Nat} (hi:σ i=some b):τ i=some b:=(h.1 i b hi).1

theorem eD.imp {α β:Type} {R S:α→β→Prop} (h: ∀ a b,R a b→S a b): ∀ {l:List α} {m:List β},eD R l m→eD S l m
 | _,_, .nil=> .nil
 | _,_, .cons a b=> .cons (h _ _ a) (b.imp h)

theorem dV.mono {σ τ:Sg} (h:Sub σ τ): ∀ {l:L} {xs:List Value},dV σ l xs→dV τ l xs
 | .aC,_,k | .bool _,_,k | .int _ _,_,k | .str _,_,k | .uH,_,k | .fG,_,k | .fn _,_,k | .pk ..,_,k=> k
 | .ptr _ _,_,⟨b,hb,e⟩=> ⟨b,h.get hb,e⟩
 | .jA _ _ _ _,_,⟨b,hb,e⟩=> ⟨b,h.get hb,e⟩
 | .sl _ _ _ _,_,⟨b,hb,e⟩=> ⟨b,h.get hb,e⟩
 | .row _ _ _ _ _,_, .inl ⟨b,cap,hb,hz,r⟩=> .inl ⟨b,cap,h.get hb,by rw [(h.1 _ _ hb).2]; exact hz,r⟩
 | .row _ _ _ _ _,_, .inr k=> .inr k
 | .rd _ _,_,k=> by simp only [dV] at k ⊢; rw [h.2.1,h.2.2]; exact k
 | .rp _ _ _,_,k=> by simp only [dV] at k ⊢; rw [h.2.1,h.2.2]; exact k
 | .CV _ _,_,⟨vals,e,k⟩=> ⟨vals,e,k.imp fun _ _ ⟨b,hb,e2⟩=> ⟨b,h.get hb,e2⟩⟩

theorem aX.mono {σ τ:Sg} (h:Sub σ τ): ∀ {l:List L} {xs:List Value},aX σ l xs→aX τ l xs
 | [],_,k=> k
 | _::_,_,⟨ys,zs,e,k,m⟩=> ⟨ys,zs,e,k.mono h,aX.mono h m⟩

theorem fD.mono {σ τ:Sg} (h:Sub σ τ): ∀ {c:C} {xs:List Value},fD σ c xs→fD τ c xs
 | .ps _,_,k=> aX.mono h k
 | .big ..,_,⟨e,k⟩=> ⟨e,fun i hi=> ⟨(k i hi).1.mono h,(k i hi).2⟩⟩
 | .row ..,_,k=> by simp only [fD] at k ⊢; rw [h.2.1,h.2.2]; exact k
 | .dead,_,_=> trivial

theorem mP.mono {σ τ:Sg} (h:Sub σ τ): ∀ {c:U} {x:Value},mP σ c x→mP τ c x
 | .one _,_,⟨e,k⟩=> ⟨e,k.mono h⟩
 | .ag _,_,⟨xs,e,k⟩=> ⟨xs,e,k.mono h⟩

theorem aQ.mono {σ τ:Sg} (h:Sub σ τ): ∀ {c:V} {x:Value},aQ σ c x→aQ τ c x
 | .aC,_,_=> trivial
 | .u _,_,k=> mP.mono h k
 | .dX _,_,⟨xs,e,k⟩=> ⟨xs,e,k.imp fun _ _=> mP.mono h⟩

theorem dV.len {σ:Sg}: ∀ {l:L} {xs:List Value},dV σ l xs→xs.length=l.sz
 | .aC,_,⟨_,e,_⟩=> by subst e; rfl
 | .bool _,_,e | .str _,_,e | .uH,_,e | .fG,_,e | .fn _,_,e=> by cases e; rfl
 | .int _ _,_,⟨e,_⟩=> by subst e; rfl
 | .ptr _ _,_,⟨_,_,e⟩ | .jA _ _ _ _,_,⟨_,_,e⟩ | .sl _ _ _ _,_,⟨_,_,e⟩=> by subst e; rfl
 | .pk _ _ _ _,_,⟨e,_⟩=> by subst e; simp [L.sz]
 | .row _ _ _ _ _,_, .inl ⟨_,_,_,_,_,_,_,e⟩=> by subst e; rfl
 | .row _ _ _ _ _,_, .inr ⟨_,_, .inl ⟨_,e⟩⟩=> by subst e; rfl
 | .row _ _ _ _ _,_, .inr ⟨_,_, .inr ⟨_,_,e⟩⟩=> by subst e; rfl
 | .rd _ _,_,k=> by simp only [dV,eF] at k; obtain ⟨_,_,e,_⟩:=k; subst e; rfl
 | .rp _ _ _,_,⟨_,_,_,e,_⟩=> by subst e; rfl
 | .CV _ _,_,⟨_,e,_⟩=> by subst e; rfl

theorem aX.len {σ:Sg}: ∀ {l:List L} {xs:List Value},aX σ l xs→xs.length=Cr l
 | [],_,e=> by cases e; rfl
 | _::_,_,⟨ys,zs,e,k,m⟩=> by subst e; simp [Cr,k.len,aX.len m]

theorem fD.len {σ:Sg}: ∀ {c:C} {xs:List Value},fD σ c xs→c.all=true→xs.length=c.sz
 | .ps _,_,k,_=> aX.len k
 | .big ..,_,⟨e,_⟩,_=> e

theorem dV.mG {σ:Sg}: ∀ {l:L} {xs:List Value},dV σ l xs→ ∀ x∈xs,oneCell x=true
 | .aC,_,⟨_,e,h⟩=> by subst e; simpa using h
 | .bool _,_,e | .str _,_,e | .uH,_,e | .fG,_,e | .fn _,_,e=> by cases e; simp [oneCell]
 | .int _ _,_,⟨e,_⟩=> by subst e; simp [oneCell]
 | .ptr _ _,_,⟨_,_,e⟩ | .jA _ _ _ _,_,⟨_,_,e⟩ | .sl _ _ _ _,_,⟨_,_,e⟩=> by subst e; simp [oneCell]
 | .pk _ _ _ _,_,⟨e,_⟩=> by
   subst e
   intro x hx
   obtain ⟨i,_,rfl⟩:=List.mem_map.1 hx
   rfl
 | .row _ _ _ _ _,_, .inl ⟨_,_,_,_,_,_,_,e⟩=> by subst e; simp [oneCell]
 | .row _ _ _ _ _,_, .inr ⟨_,_, .inl ⟨_,e⟩⟩=> by subst e; simp [oneCell]
 | .row _ _ _ _ _,_, .inr ⟨_,_, .inr ⟨_,_,e⟩⟩=> by subst e; simp [oneCell]
 | .rd _ _,_,k=> by simp only [dV,eF] at k; obtain ⟨_,_,e,_⟩:=k; subst e; simp [oneCell]
 | .rp _ _ _,_,⟨_,_,_,e,_⟩=> by subst e; simp [oneCell]
 | .CV _ _,_,⟨_,e,_⟩=> by subst e; simp [oneCell]

theorem aX.mG {σ:Sg}: ∀ {l:List L} {xs:List Value},aX σ l xs→ ∀ x∈xs,oneCell x=true
 | [],_,e=> by cases e; simp
 | _::_,_,⟨ys,zs,e,k,m⟩=> by
   subst e
   intro x hx
   rcases List.mem_append.1 hx with h | h
   · exact k.mG x h
   · exact aX.mG m x h

theorem fD.mG {σ:Sg}: ∀ {c:C} {xs:List Value},fD σ c xs→c≠ .dead→ ∀ x∈xs,oneCell x=true
 | .ps _,_,k,_=> aX.mG k
 | .row _ _,_,k,_=> k.2.2
 | .dead,_,_,h=> absurd rfl h
 | .big s c f,xs,⟨e,k⟩,_=> by
   intro x hx
   obtain ⟨i,hi,rfl⟩:=List.getElem_of_mem hx
   rw [e] at hi
   have hs:0<s:=Nat.pos_of_ne_zero fun h=> by simp [h] at hi
   have hlt:i / s<c:=(Nat.div_lt_iff_lt_mul hs).2 (by rw [Nat.mul_comm]; exact hi)
   refine (k (i / s) hlt).1.mG _ ?_
   have h2:i % s<s:=Nat.mod_lt _ hs
   have h3:i=i / s*s+i % s:=by rw [Nat.mul_comm]; exact (Nat.div_add_mod i s).symm
   have hl:i % s<((xs.drop (i / s*s)).take s).length:=by
    simp only [List.length_take,List.length_drop,e]
    have:i / s*s+s≤s*c:=by
     have:(i / s+1)*s≤c*s:=Nat.mul_le_mul_right s (by omega)
     rw [Nat.mul_comm s c]
     rw [Nat.add_mul] at this
     omega
    omega
   have he:((xs.drop (i / s*s)).take s)[i % s]=xs[i]:=by
    simp only [List.getElem_take,List.getElem_drop]
    congr 1
    omega
   rw [← he]
   exact List.getElem_mem hl

theorem aX.append {σ:Sg}: ∀ {l m:List L} {xs ys:List Value},aX σ l xs→aX σ m ys→aX σ (l++m) (xs++ys)
 | [],_,_,_,e,k=> by cases e; exact k
 | _::_,_,_,_,⟨ys,zs,e,k,m⟩,h=> ⟨ys,zs++_,by subst e; simp,k,aX.append m h⟩

theorem dV.iH {σ:Sg} {t:LT} {d:D} {xs:List Value}:dV σ (wR t d) xs↔eF σ.w σ.im t d xs:=by
 cases t<;> simp only [wR,dV,eF,D.wR]
theorem aX.iH {σ:Sg}: ∀ {ts:List LT} {e:List D} {xs:List Value},aX σ (iX ts e) xs↔aT σ.w σ.im ts e xs
 | [],_,_=> by simp only [iX,aX,aT]
 | t::ts,e,xs=> by
   simp only [iX,aX,aT]
   constructor
   · rintro ⟨ys,zs,e1,h1,h2⟩
     exact ⟨ys,zs,e1,dV.iH.1 h1,aX.iH.1 h2⟩
   · rintro ⟨ys,zs,e1,h1,h2⟩
     exact ⟨ys,zs,e1,dV.iH.2 h1,aX.iH.2 h2⟩
theorem akF (t:LT) (d:D):(wR t d).sz=t.sz:=by cases t<;> rfl
theorem X9: ∀ (ts:List LT) (e:List D),Cr (iX ts e)=bP ts
 | [],_=> rfl
 | t::ts,e=> by simp only [iX,Cr,bP,akF,X9 ts]

theorem aX.VW {σ:Sg} (k:IntKind) (g:Nat→Int): ∀ (is:List Nat),(∀ i∈is,jm k (g i)=true)→
 aX σ (is.map fun i=> .int k (g i)) (is.map fun i=> .int k (g i))
 | [],_=> rfl
 | i::is,h=> ⟨[.int k (g i)],_,rfl,⟨rfl,h i (by simp)⟩,aX.VW k g is fun j hj=> h j (by simp [hj])⟩

theorem vM {k:IntKind} {n:Int}:jm k n=true↔k.min≤n∧n≤k.max:=by
 cases k<;> simp [jm,IntKind.min,IntKind.max,IntKind.signed,IntKind.bits]<;> omega

theorem bK {k:IntKind} (hk:k.signed=false) {n:Int}:jm k n=true↔0≤n∧n<((2^k.bits:Nat):Int):=by
 cases k<;> simp [jm,IntKind.signed,IntKind.bits] at hk ⊢

theorem Em (b n i:Nat):digit b n i<2^b:=Nat.mod_lt _ (Nat.two_pow_pos b)

theorem vL {k:IntKind} (hk:k.signed=false) {b:Nat} (hb:b≤k.bits) (n i:Nat):jm k (digit b n i:Int)=true:=by
 rw [bK hk]
 refine ⟨by omega,?_⟩
 have h:=Em b n i
 have:2^b≤2^k.bits:=Nat.pow_le_pow_right (by omega) hb
 exact_mod_cast Nat.lt_of_lt_of_le h this

theorem dV.explode {σ:Sg} {l:L} {xs:List Value} (h:dV σ l xs):aX σ (explode l) xs:=by
 cases l with
 | pk k b c n=>
   obtain ⟨e,_,hk,hb⟩:=h
   subst e
   exact aX.VW k _ _ fun i _=> vL hk hb n i
 | _=> exact ⟨xs,[],by simp,h,rfl⟩

theorem EI (l:L): ∀ x∈explode l,x.sz=1∨explode l= [l]:=by
 intro x hx
 cases l with
 | pk k b c n=>
   obtain ⟨i,_,rfl⟩:=List.mem_map.1 hx
   exact .inl rfl
 | _=> exact .inr rfl

theorem aX.Ac {σ:Sg}: ∀ {l:List L} {xs:List Value} (m:Nat),(∀ x∈l,x.sz=1)→aX σ l xs→
 aX σ (l.take m) (xs.take m)∧aX σ (l.drop m) (xs.drop m)
 | [],_,m,_,e=> by cases e; simp [aX]
 | _::_,_,0,_,h=> by simpa [aX] using h
 | x::l,_,m+1,hs,⟨ys,zs,e,k,h⟩=> by
   subst e
   have hl:ys.length=1:=k.len.trans (hs x (by simp))
   obtain ⟨y,rfl⟩:=List.length_eq_one_iff.1 hl
   obtain ⟨h1,h2⟩:=aX.Ac m (fun z hz=> hs z (by simp [hz])) h
   exact ⟨⟨[y],_,by simp,k,h1⟩,by simpa using h2⟩

theorem dm {σ:Sg}: ∀ {l:List L} {m:Nat} {a r:List L} {xs:List Value},iO l m=some (a,r)→aX σ l xs→
 aX σ a (xs.take m)∧aX σ r (xs.drop m)∧m≤xs.length
 | l,0,a,r,xs,he,h=> by
   have:iO l 0=some ([],l):=by cases l<;> rfl
   rw [this] at he
   cases he
   exact ⟨by simp [aX],by simpa using h,by omega⟩
 | [],m+1,a,r,xs,he,h=> by simp [iO] at he
 | x::l,m+1,a,r,xs,he,h=> by
   obtain ⟨ys,zs,e,k,h⟩:=h
   subst e
   have hlen:=k.len
   simp only [iO] at he
   split at he
   · rename_i hle
     split at he
     · rename_i a' b' hab
       cases he
       obtain ⟨h1,h2,h3⟩:=dm hab h
       have e1:(ys++zs).take (m+1)=ys++zs.take (m+1 - x.sz):=by
        rw [List.take_append,hlen,List.take_of_length_le (by omega)]
       have e2:(ys++zs).drop (m+1)=zs.drop (m+1 - x.sz):=by
        rw [List.drop_append,hlen,List.drop_of_length_le (by omega)]; rfl
       rw [e1,e2]
       refine ⟨⟨ys,_,rfl,k,h1⟩,h2,?_⟩
       simp only [List.length_append]; omega
     · cases he
   · rename_i hlt
     cases he
     have hex:=k.explode
     have hsg: ∀ y∈explode x,y.sz=1:=by
      intro y hy
      rcases EI x y hy with h1 | h1
      · exact h1
      · exfalso
        cases x with
        | pk kk b c n=>
          have:=congrArg List.length h1
          simp only [Vx.explode,List.length_map,List.length_range,List.length_singleton] at this
          subst this
          simp [L.sz] at hlt
        | _=> simp [L.sz] at hlt
     obtain ⟨h1,h2⟩:=aX.Ac (m+1) hsg hex
     have e1:(ys++zs).take (m+1)=ys.take (m+1):=by
      rw [List.take_append_of_le_length (by omega)]
     have e2:(ys++zs).drop (m+1)=ys.drop (m+1)++zs:=by
      rw [List.drop_append_of_le_length (by omega)]
     rw [e1,e2]
     refine ⟨h1,aX.append h2 h,?_⟩
     simp only [List.length_append]; omega
end Vx

/-
  An executor of Go code on values of its own: parts of aggregates; numbers; that what it says of the operations that touch no memory is so.
-/
namespace Vx
open Go Go.RowKit

section
variable {P:Program} {w:World}

theorem run_program:(program:Sem Program).run P w= .ok P w:=rfl

theorem run_underlying {t:TypeId} {d:TypeDesc} (h:P.underlying t=some d):(underlying t).run P w= .ok d w:=by
 simp [underlying,h]

theorem run_typeInfo {t:TypeId} {d:TypeInfo} (h:P.info? t=some d):(typeInfo t).run P w= .ok d w:=by
 simp [typeInfo,h]

theorem run_sizeOf {t:TypeId} {n:Nat} (h:jG P t=some n):(Go.sizeOf t).run P w= .ok n w:=by
 unfold jG at h
 cases hi:P.info? t with
 | none=> simp [hi] at h
 | some i=>
   simp [hi] at h
   simp [Go.sizeOf,run_typeInfo hi,h]

theorem jB {t:TypeId} {b:Bool} (h:mf P t=some b):(isAgg t).run P w= .ok b w:=by
 unfold mf at h
 cases hu:P.underlying t with
 | none=> simp [hu] at h
 | some d=>
   simp only [hu] at h
   simp only [isAgg,Sem.run_bind,run_underlying hu,Result.andThen_ok]
   cases d<;> simp_all
end

def allT (l:List Bool):Prop:= ∀ b∈l,b=true

theorem fT {b:Bool} {l:List Bool} (h:allT (b::l)):b=true∧allT l:=
 ⟨h b (by simp),fun c hc=> h c (by simp [hc])⟩

theorem eQ {a l:List Bool} (h:allT (a++l)):allT a∧allT l:=
 ⟨fun c hc=> h c (by simp [hc]),fun c hc=> h c (by simp [hc])⟩

inductive Gives:Step→V→Prop where
 | val {chk:List Bool} {v:V}:allT chk→Gives (.val chk v) v
 | brT {chk:List Bool} {v w:V}:allT chk→Gives (.br chk true v w) v
 | brF {chk:List Bool} {v w:V}:allT chk→Gives (.br chk false v w) w

theorem au {chk:List Bool} {v x:V} (h:Gives (.val chk v) x):allT chk∧x=v:=by
 cases h with
 | val h=> exact ⟨h,rfl⟩

theorem dV.acD {σ:Sg} {l:L} {xs:List Value} (h:dV σ l xs) (hs:l.sz=1): ∃ x,xs= [x]:=
 List.length_eq_one_iff.1 (h.len.trans hs)

theorem dV.xU {σ:Sg} {l:L} {x:Value} (h:dV σ l [x]):mP σ (.one l) x:=
 ⟨h.mG x (by simp),h⟩

theorem lC {σ:Sg} {c:C} {off:Nat} {chk:List Bool} {l:L} {xs:List Value} (he:HZ c off=some (chk,l)) (ht:allT chk)
 (h:fD σ c xs): ∃ x,xs[off]? =some x∧dV σ l [x]:=by
 unfold HZ at he
 split at he
 · rename_i k b c n
   cases he
   obtain ⟨ys,zs,e,⟨e2,hn,hk,hb⟩,e3⟩:=h
   subst e2; cases e3; subst e
   have hlt:off<c:=of_decide_eq_true (ht _ (by simp))
   exact ⟨.int k (digit b n off),by simp [hlt],rfl,vL hk hb n off⟩
 · rename_i l' hnp
   split at he
   · rename_i a k b c n r hs
     cases he
     obtain ⟨_,⟨ys,zs,e,⟨e2,hn,hk,hb⟩,_⟩,_⟩:=dm hs h
     subst e2
     have hlt:0<c:=of_decide_eq_true (ht _ (by simp))
     refine ⟨.int k (digit b n 0),?_,rfl,vL hk hb n 0⟩
     have:(xs.drop off)[0]? =some (Value.int k (digit b n 0)):=by
      rw [e]
      obtain ⟨c,rfl⟩: ∃ m,c=m+1:=⟨c - 1,by omega⟩
      simp [List.range_succ_eq_map]
     simpa using this
   · rename_i a r hnp' hs
     cases he
     obtain ⟨_,⟨ys,zs,e,hk1,_⟩,_⟩:=dm hs h
     have hx:l.sz=1:=by
      cases l with
      | pk k b c n=> exact absurd rfl (hnp' k b c n)
      | _=> rfl
     obtain ⟨y,rfl⟩:=hk1.acD hx
     refine ⟨y,?_,hk1⟩
     have:(xs.drop off)[0]? =some y:=by rw [e]; simp
     simpa using this
   · cases he
 · rename_i c f
   split at he
   · rename_i x hf
     split at he
     · cases he
     · rename_i y hy
       cases he
       have hlt:off<c:=of_decide_eq_true (ht _ (by simp))
       obtain ⟨e,hr⟩:=h
       have h1:=(hr off hlt).1
       rw [hf] at h1
       obtain ⟨ys,zs,e2,hk1,e3⟩:=h1
       cases e3
       have hx:l.sz=1:=by
        cases l with
        | pk k b c n=> exact absurd rfl (hy k b c n)
        | _=> rfl
       obtain ⟨y,rfl⟩:=hk1.acD hx
       refine ⟨y,?_,hk1⟩
       have:((xs.drop (off*1)).take 1)[0]? =some y:=by rw [e2]; simp
       simpa using this
   · cases he
 · cases he

theorem iJ {σ:Sg} {c c':C} {off s:Nat} {xs:List Value} (he:sF c off s=some c') (h:fD σ c xs):
 fD σ c' ((xs.drop off).take s)∧off+s≤xs.length:=by
 unfold sF at he
 split at he
 · split at he
   · rename_i hs
     split at he
     · rename_i hs2
       cases he
       obtain ⟨_,h2,hl⟩:=dm hs h
       obtain ⟨h3,_,hl2⟩:=dm hs2 h2
       simp only [List.length_drop] at hl2
       exact ⟨h3,by omega⟩
     · cases he
   · cases he
 · cases he

theorem Vr {σ:Sg} {c:C} {off:Nat} {chk:List Bool} {l:L} {xs:List Value} (he:HZ c off=some (chk,l)) (ht:allT chk)
 (h:fD σ c xs): ∃ x, ∃ hlt:off<xs.length,xs[off]=x∧dV σ l [x]:=by
 obtain ⟨x,hx,hl⟩:=lC he ht h
 obtain ⟨hlt,he⟩:=List.getElem?_eq_some_iff.1 hx
 exact ⟨x,hlt,he,hl⟩

theorem KT (xs:List Value) (off s:Nat):xs.toArray.extract off (off+s)=((xs.drop off).take s).toArray:=by
 simp

theorem OU {σ:Sg} {P:Program} {w:World} {t:TypeId} {c:C} {off:Nat} {v:V} {xs:List Value}
 (he:Gives (acM P t c off) v) (h:fD σ c xs):
 ∃ y,(part t xs.toArray off).run P w= .ok y w∧aQ σ v y:=by
 unfold acM at he
 split at he
 · rename_i s ha hz
   split at he
   · rename_i c' hs
     obtain ⟨_,rfl⟩:=au he
     obtain ⟨hc,_⟩:=iJ hs h
     refine ⟨.agg (xs.toArray.extract off (off+s)),?_,_,by rw [KT],hc⟩
     simp [part,jB ha,run_sizeOf hz]
   · cases he
 · rename_i s ha hz
   split at he
   · rename_i chk l hg
     obtain ⟨hc,rfl⟩:=au he
     obtain ⟨x,hx,hl⟩:=lC hg hc h
     refine ⟨x,?_,hl.xU⟩
     simp [part,jB ha,hx]
   · cases he
 · cases he

theorem jN (k:IntKind) (n:Int):ak k n=k.wrap n:=by
 cases k<;> simp [ak,IntKind.wrap,IntKind.signed,IntKind.bits]
 all_goals (split<;> omega)

theorem lD (k:IntKind) (n:Int):jm k (ak k n)=true:=by
 rw [vM]
 cases k<;> simp only [ak,IntKind.min,IntKind.max,IntKind.signed,IntKind.bits]<;> simp<;> omega

theorem dN {σ:Sg} {k:IntKind} {n:Int} (h:jm k n=true):aQ σ (.int k n) (.int k n):=⟨rfl,rfl,h⟩
theorem eX {σ:Sg} {b:Bool}:aQ σ (.bool b) (.bool b):=⟨rfl,rfl⟩

theorem nH {σ:Sg} {k:IntKind} {n:Int} {x:Value} (h:aQ σ (.u (.one (.int k n))) x):x= .int k n∧jm k n=true:=by
 obtain ⟨_,e,hk⟩:=h
 cases e
 exact ⟨rfl,hk⟩

theorem GZ {σ:Sg} {b:Bool} {x:Value} (h:aQ σ (.u (.one (.bool b))) x):x= .bool b:=by
 obtain ⟨_,e⟩:=h
 cases e
 rfl

theorem sQ {k:IntKind} {n:Int} (h:jm k n=true):k.wrap n=n:=by
 rw [← jN]
 cases k<;> simp [ak,jm] at h ⊢ <;> omega

theorem tX {m:Nat} {n:Int} (h0:0≤n) (h1:n<((2^m:Nat):Int)):(BitVec.ofInt m n).toNat=n.toNat:=by
 rw [BitVec.toNat_ofInt]
 rw [Int.emod_eq_of_lt h0 h1]

theorem vP {σ:Sg} {sy:Bool} {k:IntKind} {n:Int} {v:V} (he:Gives (mkI sy k n) v):aQ σ v (.int k (k.wrap n)):=by
 unfold mkI at he
 split at he
 · obtain ⟨hc,rfl⟩:=au he
   have h:=hc _ (List.mem_singleton.2 rfl)
   rw [Lx] at h
   rw [sQ h]
   exact dN h
 · obtain ⟨_,rfl⟩:=au he
   rw [← jN]
   exact dN (lD _ _)

theorem Nv {sy:Bool} {σ:Sg} {P:Program} {w:World} {op:BinOp} {t:TypeId} {k k':IntKind} {a b:Int} {v:V}
 (he:Gives (IP sy op k a k' b) v) (ha:jm k a=true) (hb:jm k' b=true):
 ∃ y,(binOp op t (.int k a) (.int k' b)).run P w= .ok y w∧aQ σ v y:=by
 have nat_lt: ∀ {n:Int},k.signed=false→jm k n=true→0≤n∧n.toNat<2^k.bits:=by
  intro n hs hn
  have:=(bK hs).1 hn
  exact ⟨this.1,by omega⟩
 have nat_in: ∀ {n:Nat},k.signed=false→n<2^k.bits→jm k (n:Int)=true:=by
  intro n hs hn
  rw [bK hs]
  exact ⟨by omega,by exact_mod_cast hn⟩
 by_cases hshl:op= .shl
 · subst hshl
   simp only [IP] at he
   obtain ⟨hc,rfl⟩:=au he
   have h0:0≤b:=of_decide_eq_true (hc _ (by simp))
   refine ⟨_,?_,dN (lD _ _)⟩
   have: ¬ b<0:=by omega
   simp [binOp,Op.shift,this,jN]
 by_cases hshr:op= .shr
 · subst hshr
   simp only [IP] at he
   obtain ⟨hc,rfl⟩:=au he
   have h0:0≤b:=of_decide_eq_true (hc _ (by simp))
   have: ¬ b<0:=by omega
   have hfd:a.fdiv (2^min b.toNat k.bits)=a / ((2^min b.toNat k.bits:Nat):Int):=by
    rw [Int.fdiv_eq_ediv_of_nonneg]
    · simp
    · exact Int.le_of_lt (Int.pow_pos (by omega))
   refine ⟨.int k (a / ((2^min b.toNat k.bits:Nat):Int)),?_,dN ?_⟩
   · simp only [binOp,Op.shift,this,if_false,Sem.run_pure,hfd]
   · have hp:(0:Int)<((2^min b.toNat k.bits:Nat):Int):=by exact_mod_cast Nat.two_pow_pos _
     generalize ((2^min b.toNat k.bits:Nat):Int)=m at*
     rw [vM] at ha ⊢
     have hmin:k.min≤0:=by cases k<;> simp [IntKind.min,IntKind.signed,IntKind.bits]
     have hmax:0≤k.max:=by cases k<;> simp [IntKind.max,IntKind.signed,IntKind.bits]
     constructor
     · by_cases h:0≤a
       · have:=Int.ediv_nonneg h (Int.le_of_lt hp); omega
       · have h1:a≤a / m:=by
          rw [Int.le_ediv_iff_mul_le hp]
          have:a*m≤a*1:=Int.mul_le_mul_of_nonpos_left (by omega) (by omega)
          omega
         omega
     · by_cases h:0≤a
       · have h1:a / m≤a:=Int.ediv_le_self m h
         omega
       · have h1:a / m≤0:=by
          have:=Int.ediv_neg_of_neg_of_pos (by omega:a<0) hp
          omega
         omega
 have hk:k=k':=by
  by_cases h:k=k'
  · exact h
  · exfalso
    unfold IP at he
    split at he
    · exact hshl rfl
    · exact hshr rfl
    · simp only [h,decide_false] at he
      cases he
 subst hk
 unfold IP at he
 cases op<;> first | exact absurd rfl hshl | exact absurd rfl hshr | skip
 all_goals simp only [decide_true] at he
 case add=> exact ⟨_,by simp [binOp,Op.intArith],vP he⟩
 case sub=> exact ⟨_,by simp [binOp,Op.intArith],vP he⟩
 case mul=> exact ⟨_,by simp [binOp,Op.intArith],vP he⟩
 case eql=> obtain ⟨_,rfl⟩:=au he; exact ⟨_,by simp [binOp,Op.intCmp]; rfl,eX⟩
 case neq=> obtain ⟨_,rfl⟩:=au he; exact ⟨_,by simp [binOp,Op.intCmp,bne]; rfl,eX⟩
 case lss=> obtain ⟨_,rfl⟩:=au he; exact ⟨_,by simp [binOp,Op.intCmp],eX⟩
 case leq=> obtain ⟨_,rfl⟩:=au he; exact ⟨_,by simp [binOp,Op.intCmp],eX⟩
 case gtr=> obtain ⟨_,rfl⟩:=au he; exact ⟨_,by simp [binOp,Op.intCmp],eX⟩
 case geq=> obtain ⟨_,rfl⟩:=au he; exact ⟨_,by simp [binOp,Op.intCmp],eX⟩
 case quo=>
  cases hs:k.signed<;> simp only [hs] at he
  · obtain ⟨hc,rfl⟩:=au he
    have h0:b≠0:=of_decide_eq_true (hc _ (by simp))
    have ⟨a0,_⟩:=nat_lt hs ha
    have ⟨b0,_⟩:=nat_lt hs hb
    have hq:jm k (a / b)=true:=by
     rw [bK hs] at ha ⊢
     exact ⟨Int.ediv_nonneg a0 b0,Int.lt_of_le_of_lt (Int.ediv_le_self b a0) ha.2⟩
    refine ⟨_,?_,dN hq⟩
    simp [binOp,Op.intDiv,h0,Int.tdiv_eq_ediv_of_nonneg a0,sQ hq]
  · split at he
    · obtain ⟨hc,rfl⟩:=au he
      have h0:b≠0:=of_decide_eq_true (hc _ (by simp))
      have h:=hc (dG k (a.tdiv b)) (by simp)
      rw [Lx] at h
      exact ⟨_,by simp [binOp,Op.intDiv,h0,sQ h],dN h⟩
    · obtain ⟨hc,rfl⟩:=au he
      have h0:b≠0:=of_decide_eq_true (hc _ (by simp))
      exact ⟨_,by simp [binOp,Op.intDiv,h0,jN],dN (lD _ _)⟩
 case rem=>
  cases hs:k.signed<;> simp only [hs] at he<;> obtain ⟨hc,rfl⟩:=au he
  · have h0:b≠0:=of_decide_eq_true (hc _ (by simp))
    have ⟨a0,_⟩:=nat_lt hs ha
    have ⟨b0,_⟩:=nat_lt hs hb
    have hq:jm k (a % b)=true:=by
     rw [bK hs] at hb ⊢
     have:=Int.emod_lt_of_pos a (by omega:0<b)
     exact ⟨Int.emod_nonneg a h0,by omega⟩
    refine ⟨_,?_,dN hq⟩
    simp [binOp,Op.intDiv,h0,Int.tmod_eq_emod_of_nonneg a0]
  · have h0:b≠0:=of_decide_eq_true (hc _ (by simp))
    refine ⟨_,by simp [binOp,Op.intDiv,h0],dN ?_⟩
    rw [vM] at ha ⊢
    have hmin:k.min≤0:=by cases k<;> simp [IntKind.min,IntKind.signed,IntKind.bits]
    have hmax:0≤k.max:=by cases k<;> simp [IntKind.max,IntKind.signed,IntKind.bits]
    have key: ∀ c:Int,0≤c→0≤c.tmod b∧c.tmod b≤c:=by
     intro c h
     refine ⟨Int.tmod_nonneg b h,?_⟩
     rw [Int.tmod_eq_emod_of_nonneg h]
     by_cases hb0:0<b
     · have h2:=Int.emod_def c b
       have h3:=Int.mul_nonneg (Int.le_of_lt hb0) (Int.ediv_nonneg h (Int.le_of_lt hb0))
       omega
     · rw [← Int.emod_neg]
       have h2:=Int.emod_def c (-b)
       have h3:=Int.mul_nonneg (by omega:0≤ -b) (Int.ediv_nonneg h (by omega:0≤ -b))
       omega
    by_cases h:0≤a
    · have:=key a h
      omega
    · have h1:(-a).tmod b= -(a.tmod b):=Int.neg_tmod a b
      have:=key (-a) (by omega)
      omega
 case and=>
  cases hs:k.signed<;> simp only [hs] at he<;> obtain ⟨hc,rfl⟩:=au he
  · have ⟨a0,al⟩:=nat_lt hs ha
    have ⟨b0,bl⟩:=nat_lt hs hb
    have hq:=nat_in (n:=a.toNat &&& b.toNat) hs (Nat.lt_of_le_of_lt Nat.and_le_left al)
    refine ⟨_,?_,dN hq⟩
    simp [binOp,Op.intBits,BitVec.toNat_and,tX a0 ((bK hs).1 ha).2,tX b0 ((bK hs).1 hb).2]
    rw [sQ hq]
  · exact ⟨_,by simp [binOp,Op.intBits,jN],dN (lD _ _)⟩
 case or=>
  cases hs:k.signed<;> simp only [hs] at he<;> obtain ⟨hc,rfl⟩:=au he
  · have ⟨a0,al⟩:=nat_lt hs ha
    have ⟨b0,bl⟩:=nat_lt hs hb
    have hq:=nat_in (n:=a.toNat ||| b.toNat) hs (Nat.or_lt_two_pow al bl)
    refine ⟨_,?_,dN hq⟩
    simp [binOp,Op.intBits,BitVec.toNat_or,tX a0 ((bK hs).1 ha).2,tX b0 ((bK hs).1 hb).2]
    rw [sQ hq]
  · exact ⟨_,by simp [binOp,Op.intBits,jN],dN (lD _ _)⟩
 case xor=>
  cases hs:k.signed<;> simp only [hs] at he<;> obtain ⟨hc,rfl⟩:=au he
  · have ⟨a0,al⟩:=nat_lt hs ha
    have ⟨b0,bl⟩:=nat_lt hs hb
    have hq:=nat_in (n:=a.toNat^^^b.toNat) hs (Nat.xor_lt_two_pow al bl)
    refine ⟨_,?_,dN hq⟩
    simp [binOp,Op.intBits,BitVec.toNat_xor,tX a0 ((bK hs).1 ha).2,tX b0 ((bK hs).1 hb).2]
    rw [sQ hq]
  · exact ⟨_,by simp [binOp,Op.intBits,jN],dN (lD _ _)⟩
 case andNot=> cases he
end Vx

/-
  An executor of Go code on values of its own: '==' on aggregates of numbers.
-/
namespace Vx
open Go Go.RowKit

def Nh:Value→Value→Option Bool
 | .int k a, .int k' b=> if k=k' then some (a==b) else none
 | _,_=> none

def cmpL:List Value→List Value→Option Bool
 | [],[]=> some true
 | x::xs,y::ys=> match Nh x y,cmpL xs ys with
   | some a,some b=> some (a && b)
   | _,_=> none
 | _,_=> none

theorem oK: ∀ {a b c d:List Value} {r s:Bool},cmpL a c=some r→cmpL b d=some s→cmpL (a++b) (c++d)=some (r && s)
 | [],_,[],_,_,_,h,k=> by cases h; simpa using k
 | [],_,_::_,_,_,_,h,_=> by cases h
 | _::_,_,[],_,_,_,h,_=> by cases h
 | x::a,b,y::c,d,r,s,h,k=> by
   simp only [cmpL] at h
   split at h
   · rename_i u v hu hv
     cases h
     have:=oK hv k
     simp only [List.cons_append,cmpL,hu,this,Bool.and_assoc]
   · cases h

theorem xG: ∀ {xs ys:List Value} {r:Bool} (m:Nat),cmpL xs ys=some r→
 ∃ a b,cmpL (xs.take m) (ys.take m)=some a∧cmpL (xs.drop m) (ys.drop m)=some b∧r=(a && b)
 | xs,ys,r,0,h=> ⟨true,r,by simp [cmpL],by simpa using h,rfl⟩
 | [],[],r,m+1,h=> by cases h; exact ⟨true,true,by simp [cmpL],by simp [cmpL],rfl⟩
 | [],_::_,_,_+1,h=> by cases h
 | _::_,[],_,_+1,h=> by cases h
 | x::xs,y::ys,r,m+1,h=> by
   simp only [cmpL] at h
   split at h
   · rename_i u v hu hv
     cases h
     obtain ⟨a,b,h1,h2,e⟩:=xG m hv
     refine ⟨u && a,b,?_,by simpa using h2,by rw [e,Bool.and_assoc]⟩
     simp only [List.take_succ_cons,cmpL,hu,h1]
   · cases h

section
variable {P:Program} {w:World}

theorem zM {t:TypeId} {s off:Nat} {ag:Bool} (hz:jG P t=some s) (ha:mf P t=some ag) (xs:List Value) (hl:off+s≤xs.length) (hs:ag=false→s=1):
 (part t xs.toArray off).run P w= .ok (if ag then .agg ((xs.drop off).take s).toArray else ((xs.drop off).take s).headD default) w:=by
 cases ag with
 | true=> simp [part,jB ha,run_sizeOf hz]
 | false=>
   have:=hs rfl
   subst this
   have hlt:off<xs.length:=by omega
   have e:((xs.drop off).take 1)= [xs[off]]:=by
    rw [List.drop_eq_getElem_cons hlt]; rfl
   simp [part,jB ha,List.getElem?_eq_getElem hlt,e]

theorem NJ {d:Nat} {t:TypeId} {k:IntKind} (h:dQ P (d+1) t=true) (hu:P.underlying t=some (.int k)):jG P t=some 1:=by
 unfold dQ at h
 rw [hu] at h
 cases hi:P.info? t with
 | none=> simp [hi] at h
 | some i=> simp [hi] at h; simp [jG,hi,h]

theorem EN {d:Nat} {t e:TypeId} {n:Nat} (h:dQ P (d+1) t=true) (hu:P.underlying t=some (.array n e)):
 dQ P d e=true∧ ∃ s,jG P e=some s∧s≠0∧jG P t=some (n*s):=by
 unfold dQ at h
 rw [hu] at h
 cases hi:P.info? t with
 | none=> simp [hi] at h
 | some i=>
   simp only [hi,Bool.and_eq_true] at h
   obtain ⟨h1,h2⟩:=h
   cases hj:P.info? e with
   | none=> simp [hj] at h2
   | some j=>
     simp [hj] at h2
     exact ⟨h1,j.size,by simp [jG,hj],h2.2,by simp [jG,hi,h2.1]⟩

theorem NK {d:Nat} {t:TypeId} {fs:Array Field} (h:dQ P (d+1) t=true) (hu:P.underlying t=some (.struct fs)):
 P.stoodInHeld t = false ∧ (∀ f ∈ fs.toList, f.name ≠ "_" ∧ dQ P d f.type = true) ∧ dQ.flatFs P fs.toList 0 = jG P t := by
 unfold dQ at h
 rw [hu] at h
 cases hi:P.info? t with
 | none=> simp [hi] at h
 | some i=>
   simp only [hi,Bool.and_eq_true,List.all_eq_true] at h
   obtain ⟨⟨h1,h2⟩,h3⟩:=h
   refine ⟨by simpa using h1,?_,?_⟩
   · intro f hf
     have:=h2 f hf
     simpa using this
   · simp [jG,hi]
     simpa using h3

theorem Vp {d:Nat} {t:TypeId} (h:dQ P (d+1) t=true): ∃ ag s,mf P t=some ag∧jG P t=some s∧(ag=false→s=1):=by
 cases hu:P.underlying t with
 | none=> unfold dQ at h; simp [hu] at h
 | some u=>
   cases u with
   | int k=> exact ⟨false,1,by simp [mf,hu],NJ h hu,fun _=> rfl⟩
   | array n e=> obtain ⟨_,s,_,_,h2⟩:=EN h hu; exact ⟨true,_,by simp [mf,hu],h2,by simp⟩
   | struct fs=>
     unfold dQ at h
     rw [hu] at h
     cases hi:P.info? t with
     | none=> simp [hi] at h
     | some i=> exact ⟨true,i.size,by simp [mf,hu],by simp [jG,hi],by simp⟩
   | _=> exfalso; unfold dQ at h; rw [hu] at h; simp at h

def asV (ag:Bool) (xs:List Value):Value:=if ag then .agg xs.toArray else xs.headD default

theorem Hf {d D:Nat} (ih: ∀ t,dQ P d t=true→ ∀ ag s,mf P t=some ag→jG P t=some s→ ∀ xs ys:List Value,xs.length=s→ys.length=s→ ∀ r,cmpL xs ys=some r→
 (Op.equalIn D t (asV ag xs) (asV ag ys)).run P w= .ok r w) (xs ys:List Value) (hl:xs.length=ys.length):
 ∀ (fs : List Field) (o n : Nat), (∀ f ∈ fs, f.name ≠ "_" ∧ ∃ d', d = d' + 1 ∧ dQ P d f.type = true) → dQ.flatFs P fs o = some n → n = xs.length → ∀ r,
   cmpL (xs.drop o) (ys.drop o)=some r→(Op.eqFields D xs.toArray ys.toArray fs).run P w= .ok r w:=by
 intro fs
 induction fs with
 | nil=>
   intro o n _ hf hn r hr
   simp only [dQ.flatFs,Option.some.injEq] at hf
   subst hf; subst hn
   rw [List.drop_of_length_le (by omega),List.drop_of_length_le (by omega)] at hr
   cases hr
   simp [Op.eqFields]
 | cons f fs ihf=>
   intro o n hfs hf hn r hr
   obtain ⟨hname,d',hd,hflat⟩:=hfs f (by simp)
   simp only [dQ.flatFs] at hf
   split at hf
   · rename_i j hj
     split at hf
     · rename_i hc
       simp only [Bool.and_eq_true,beq_iff_eq,bne_iff_ne] at hc
       have hmono: ∀ (l:List Field) (a b:Nat),dQ.flatFs P l a=some b→a≤b:=by
        intro l
        induction l with
        | nil=> intro a b h; simp only [dQ.flatFs,Option.some.injEq] at h; omega
        | cons g l ihl=>
          intro a b h
          simp only [dQ.flatFs] at h
          split at h
          · split at h
            · have:=ihl _ _ h; omega
            · cases h
          · cases h
       have hle:=hmono _ _ _ hf
       subst hd
       obtain ⟨ag,s,hag,hsz,hs1⟩:=Vp hflat
       have hjs:j.size=s:=by simpa [jG,hj] using hsz
       subst hjs
       obtain ⟨b,c,h1,h2,hrr⟩:=xG j.size hr
       rw [List.drop_drop,List.drop_drop] at h2
       have hxl:((xs.drop o).take j.size).length=j.size:=by simp; omega
       have hyl:((ys.drop o).take j.size).length=j.size:=by simp; omega
       have he:=ih _ hflat ag _ hag hsz _ _ hxl hyl b h1
       simp only [Op.eqFields,ne_eq,hname,not_false_eq_true,if_true,Sem.run_bind]
       rw [hc.1,zM hsz hag xs (by omega) hs1]
       simp only [Result.andThen_ok]
       rw [zM hsz hag ys (by omega) hs1]
       simp only [Result.andThen_ok]
       unfold asV at he
       rw [he]
       simp only [Result.andThen_ok,Sem.run_ite]
       have hrec:=ihf (o+j.size) n (fun g hg=> hfs g (by simp [hg])) hf hn c h2
       cases b
       · simp [hrr]
       · simp [hrec,hrr]
     · cases hf
   · cases hf

theorem Zm (f:Nat→Sem Bool) (n sz:Nat) (xs ys:List Value) (hx:xs.length=n*sz) (hy:ys.length=n*sz)
 (hf: ∀ i,i<n→ ∀ b,cmpL ((xs.drop (i*sz)).take sz) ((ys.drop (i*sz)).take sz)=some b→(f i).run P w= .ok b w):
 ∀ (m i:Nat) (r:Bool),i+m=n→cmpL (xs.drop (i*sz)) (ys.drop (i*sz))=some r→
 ((forIn (List.range' i m) ((none:Option Bool),()) fun i __s=> do
  let b ← f i
  if (!b)=true then pure (ForInStep.done (some false,())) else pure (ForInStep.yield (none,())):Sem (Option Bool × Unit)).run P w).andThen
  (fun a w'=> Sem.run P (match a.fst with
   | some r=> pure r
   | none=> pure true) w')=Result.ok r w:=by
 intro m
 induction m with
 | zero=>
   intro i r hi hr
   have:n*sz≤i*sz:=Nat.mul_le_mul_right sz (by omega)
   rw [List.drop_of_length_le (by omega),List.drop_of_length_le (by omega)] at hr
   cases hr
   simp
 | succ m ih=>
   intro i r hi hr
   obtain ⟨b,c,h1,h2,e⟩:=xG sz hr
   have hb:=hf i (by omega) b h1
   have hrec:=ih (i+1) c (by omega) (by rw [Nat.add_mul]; simpa [List.drop_drop] using h2)
   simp only [List.range'_succ,List.forIn_cons,Sem.run_bind,hb,Result.andThen_ok,Sem.run_ite]
   cases b
   · simp [e]
   · simp only [Bool.not_true,Bool.false_eq_true,if_false,Sem.run_pure,Result.andThen_ok]
     rw [e,Bool.true_and,← hrec]

theorem KC: ∀ (d:Nat) (D:Nat),d≤D→ ∀ t,dQ P d t=true→ ∀ ag s,mf P t=some ag→jG P t=some s→
 ∀ xs ys:List Value,xs.length=s→ys.length=s→ ∀ r,cmpL xs ys=some r→(Op.equalIn D t (asV ag xs) (asV ag ys)).run P w= .ok r w:=by
 intro d
 induction d with
 | zero=> intro D _ t h; simp [dQ] at h
 | succ d ih=>
   intro D hD t hflat ag s hag hsz xs ys hx hy r hr
   obtain ⟨D,rfl⟩: ∃ m,D=m+1:=⟨D - 1,by omega⟩
   cases hu:P.underlying t with
   | none=> simp [mf,hu] at hag
   | some u=>
     cases u with
     | int k=>
       have h1:=NJ hflat hu
       rw [hsz] at h1
       cases h1
       have:ag=false:=by simpa [mf,hu] using hag.symm
       subst this
       obtain ⟨x,rfl⟩:=List.length_eq_one_iff.1 hx
       obtain ⟨y,rfl⟩:=List.length_eq_one_iff.1 hy
       simp only [cmpL] at hr
       split at hr
       · rename_i p q hp hq
         cases hq
         cases hr
         unfold Nh at hp
         split at hp
         · rename_i k1 a k2 b
           split at hp
           · rename_i hk
             cases hp
             subst hk
             simp [asV,run_equalIn_int w D t k1 k a b hu]
           · cases hp
         · cases hp
       · cases hr
     | struct fs=>
       obtain ⟨h1,h2,h3⟩:=NK hflat hu
       have:ag=true:=by simpa [mf,hu] using hag.symm
       subst this
       have hfo:P.fieldsOf t=fs:=by simp [Program.fieldsOf,hu]
       simp only [asV,if_true]
       rw [run_equalIn_struct w D t _ _ (by rw [hfo]; exact hu) h1,hfo]
       refine Hf (d:=d) (fun t' ht' ag' s' ha' hs' xs' ys' hx' hy' r' hr'=> ih D (by omega) t' ht' ag' s' ha' hs' xs' ys' hx' hy' r' hr')
        xs ys (by omega) fs.toList 0 s (fun f hf=> ⟨(h2 f hf).1,?_⟩) (by rw [h3,hsz]) hx.symm r (by simpa using hr)
       have:=(h2 f hf).2
       cases d with
       | zero=> simp [dQ] at this
       | succ d=> exact ⟨d,rfl,this⟩
     | array n e=>
       obtain ⟨h1,sz,h2,h3,h4⟩:=EN hflat hu
       have:ag=true:=by simpa [mf,hu] using hag.symm
       subst this
       rw [hsz] at h4
       cases h4
       simp only [asV,if_true,Op.equalIn,Sem.run_bind,run_underlying hu,Result.andThen_ok,run_sizeOf h2]
       rw [Std.Legacy.Range.forIn_eq_forIn_range']
       simp only [Std.Legacy.Range.size,Nat.sub_zero,Nat.add_sub_cancel,Nat.div_one]
       have hloop:=Zm (P:=P) (w:=w) (fun i=> do
        let a ← part e xs.toArray (i*sz)
        let b ← part e ys.toArray (i*sz)
        Op.equalIn D e a b) n sz xs ys hx hy ?_ n 0 r (by omega) (by simpa using hr)
       · simp only [bind_assoc] at hloop
         refine Eq.trans (congrArg (Result.andThen _) ?_) hloop
         funext a w'
         rcases a with ⟨_ | _,_⟩<;> rfl
       intro i hi b hb
       have hag':=Vp (by cases d with
        | zero=> simp [dQ] at h1
        | succ d=> exact h1:dQ P (d - 1+1) e=true)
       obtain ⟨ag,s',ha',hs',h1'⟩:=hag'
       rw [h2] at hs'
       cases hs'
       have hlen:i*sz+sz≤n*sz:=by
        have:(i+1)*sz≤n*sz:=Nat.mul_le_mul_right sz (by omega)
        rw [Nat.add_mul] at this; omega
       simp only [Sem.run_bind]
       rw [zM h2 ha' xs (by omega) h1']
       simp only [Result.andThen_ok]
       rw [zM h2 ha' ys (by omega) h1']
       simp only [Result.andThen_ok]
       exact ih D (by omega) e h1 ag sz ha' h2 _ _ (by simp; omega) (by simp; omega) b hb
     | _=> exfalso; unfold dQ at hflat; rw [hu] at hflat; simp at hflat
end

theorem qf (b:Bool) (l:List Bool):dS (b::l)=(b && dS l):=by
 cases l<;> simp [dS]

theorem IB: ∀ {xs ys:List Value} {r:Bool},cmpL xs ys=some r→cmpL ys xs=some r
 | [],[],_,h=> h
 | [],_::_,_,h=> by cases h
 | _::_,[],_,h=> by cases h
 | x::xs,y::ys,r,h=> by
   simp only [cmpL] at h ⊢
   split at h
   · rename_i u v hu hv
     cases h
     rw [IB hv]
     have:Nh y x=some u:=by
      unfold Nh at hu ⊢
      split at hu
      · split at hu
        · rename_i hk
          cases hu
          simp [hk,BEq.comm]
        · cases hu
      · cases hu
     rw [this]
   · cases h

theorem En (b n i:Nat):digit b n (i+1)=digit b (n / 2^b) i:=by
 unfold digit
 rw [Nat.div_div_eq_div_mul,← Nat.pow_add]
 congr 3
 rw [Nat.mul_add]; omega

theorem Eo (b n:Nat):digit b n 0=n % 2^b:=by simp [digit]

theorem l6 {σ:Sg} {k:IntKind} {b:Nat} (hk:k.signed=false): ∀ {c:Nat} {l:List L} {ok:Bool} {n:Nat} {r:List L} {ys:List Value},
 jT k b c l=some (ok,n,r)→aX σ l ys→ ∃ zs us,ys=zs++us∧aX σ r us∧
  ∀ n',n'<2^(b*c)→cmpL ((List.range c).map fun i=> Value.int k (digit b n' i)) zs=some (ok && decide (n'=n))
 | 0,l,ok,n,r,ys,h,hp=> by
   cases h
   refine ⟨[],ys,rfl,hp,?_⟩
   intro n' hn
   simp only [Nat.mul_zero,Nat.pow_zero] at hn
   have:n'=0:=by omega
   simp [this,cmpL]
 | c+1,[],_,_,_,_,h,_=> by cases h
 | c+1,x::l,ok,n,r,ys,h,hp=> by
   cases x with
   | int k' a=>
     simp only [jT] at h
     split at h
     · rename_i ok' n1 r' hkk ht
       cases h
       have hkk':k=k':=of_decide_eq_true hkk
       subst hkk'
       obtain ⟨y1,ys',e,⟨e1,ha⟩,hp'⟩:=hp
       subst e1
       obtain ⟨zs,us,e2,hr,hcmp⟩:=l6 hk ht hp'
       refine ⟨.int k a::zs,us,by simp [e,e2],hr,?_⟩
       intro n' hn
       have a0:0≤a:=((bK hk).1 ha).1
       have hdiv:n' / 2^b<2^(b*c):=by
        rw [Nat.div_lt_iff_lt_mul (Nat.two_pow_pos b),← Nat.pow_add]
        have:b*c+b=b*(c+1):=by rw [Nat.mul_add]; omega
        rw [this]; exact hn
       have hrec:=hcmp _ hdiv
       rw [List.range_succ_eq_map,List.map_cons,List.map_map]
       have hfun:(fun i=> Value.int k (digit b n' i:Int)) ∘ Nat.succ=fun i=> Value.int k (digit b (n' / 2^b) i:Int):=by
        funext i; simp [En]
       rw [hfun]
       simp only [cmpL,Nh,if_true,hrec,Eo]
       congr 1
       have hdm:=Nat.div_add_mod n' (2^b)
       have hml:=Nat.mod_lt n' (Nat.two_pow_pos b)
       by_cases hab:a<((2^b:Nat):Int)
       · have hnat:a.toNat<2^b:=by omega
         have e3:(n'=a.toNat+2^b*n1)↔(n' % 2^b=a.toNat∧n' / 2^b=n1):=by
          constructor
          · intro h
            subst h
            exact ⟨by rw [Nat.add_mul_mod_self_left,Nat.mod_eq_of_lt hnat],by rw [Nat.add_mul_div_left _ _ (Nat.two_pow_pos b),Nat.div_eq_of_lt hnat]; omega⟩
          · rintro ⟨h1,h2⟩
            rw [← h1,← h2]; omega
         have e4:(((n' % 2^b:Nat):Int)==a)=decide (n' % 2^b=a.toNat):=by
          generalize n' % 2^b=q
          rw [Bool.eq_iff_iff,beq_iff_eq,decide_eq_true_iff]
          omega
         rw [e4,decide_eq_true hab]
         simp only [e3,Bool.decide_and,Bool.true_and]
         cases decide (n' % 2^b=a.toNat)<;> cases ok'<;> simp
       · have e4:(((n' % 2^b:Nat):Int)==a)=false:=by
          rw [beq_eq_false_iff_ne]
          intro h
          exact hab (by rw [← h]; exact_mod_cast hml)
         rw [e4,decide_eq_false hab]
         simp
     · cases h
   | _=> simp [jT] at h

theorem BP (k:IntKind) (b:Nat): ∀ (c n m:Nat),n<2^(b*c)→m<2^(b*c)→
 cmpL ((List.range c).map fun i=> Value.int k (digit b n i)) ((List.range c).map fun i=> Value.int k (digit b m i))=some (decide (n=m))
 | 0,n,m,hn,hm=> by
   simp only [Nat.mul_zero,Nat.pow_zero] at hn hm
   have:n=0:=by omega
   have:m=0:=by omega
   simp [*,cmpL]
 | c+1,n,m,hn,hm=> by
   have hd: ∀ x,x<2^(b*(c+1))→x / 2^b<2^(b*c):=by
    intro x hx
    rw [Nat.div_lt_iff_lt_mul (Nat.two_pow_pos b),← Nat.pow_add]
    have:b*c+b=b*(c+1):=by rw [Nat.mul_add]; omega
    rw [this]; exact hx
   have hfun: ∀ x,(fun i=> Value.int k (digit b x i:Int)) ∘ Nat.succ=fun i=> Value.int k (digit b (x / 2^b) i:Int):=by
    intro x; funext i; simp [En]
   rw [List.range_succ_eq_map,List.map_cons,List.map_cons,List.map_map,List.map_map,hfun,hfun]
   simp only [cmpL,Nh,if_true,Eo,BP k b c _ _ (hd n hn) (hd m hm)]
   congr 1
   have h1:=Nat.div_add_mod n (2^b)
   have h2:=Nat.div_add_mod m (2^b)
   rw [Bool.eq_iff_iff]
   simp only [Bool.and_eq_true,beq_iff_eq,decide_eq_true_eq,Int.natCast_inj]
   constructor
   · rintro ⟨h3,h4⟩
     rw [← h1,← h2,h3,h4]
   · intro h; subst h; exact ⟨rfl,rfl⟩

theorem qo {σ:Sg}: ∀ {f:Nat} {a b:List L} {r:List Bool} {xs ys:List Value},YU f a b=some r→aX σ a xs→aX σ b ys→
 cmpL xs ys=some (dS r)
 | f,[],[],r,xs,ys,h,ha,hb=> by
   have:r= []:=by cases f<;> (simp only [YU] at h; cases h; rfl)
   subst this
   cases ha; cases hb; rfl
 | 0,_::_,_,_,_,_,h,_,_=> by simp [YU] at h
 | 0,[],_::_,_,_,_,h,_,_=> by simp [YU] at h
 | f+1,a,b,r,xs,ys,h,ha,hb=> by
   unfold YU at h
   split at h
   · cases h; cases ha; cases hb; rfl
   · rename_i f' k a l k' b m hf
     cases hf
     split at h
     · rename_i r' hk hr
       cases h
       have hk':k=k':=of_decide_eq_true hk
       subst hk'
       obtain ⟨y1,ys1,e,⟨e1,_⟩,hp1⟩:=ha
       obtain ⟨y2,ys2,e',⟨e2,_⟩,hp2⟩:=hb
       subst e; subst e1; subst e'; subst e2
       have:=qo hr hp1 hp2
       rw [qf]
       simp only [List.singleton_append,cmpL,Nh,if_true,this]
       congr 2
     · cases h
   · rename_i f' k b c n l k' b' c' n' m hf
     cases hf
     split at h
     · rename_i r' hk hr
       cases h
       obtain ⟨rfl,rfl,rfl⟩:=of_decide_eq_true hk
       obtain ⟨y1,ys1,e,⟨e1,h1,_⟩,hp1⟩:=ha
       obtain ⟨y2,ys2,e',⟨e2,h2,_⟩,hp2⟩:=hb
       subst e; subst e1; subst e'; subst e2
       rw [qf]
       exact oK (BP k b c n n' h1 h2) (qo hr hp1 hp2)
     · cases h
   · rename_i f' k b c n l k' a m hf
     cases hf
     split at h
     · rename_i ok n' r' hk ht
       split at h
       · rename_i s hs
         cases h
         have hk':k.signed=false:=by simpa using hk
         obtain ⟨y1,ys1,e,⟨e1,h1,_⟩,hp1⟩:=ha
         obtain ⟨zs,us,e2,hr,hcmp⟩:=l6 hk' ht hb
         subst e; subst e1; subst e2
         rw [qf]
         exact oK (hcmp n h1) (qo hs hp1 hr)
       · cases h
     · cases h
   · rename_i f' k' a m k b c n l hf
     cases hf
     split at h
     · rename_i ok n' r' hk ht
       split at h
       · rename_i s hs
         cases h
         have hk':k.signed=false:=by simpa using hk
         obtain ⟨y1,ys1,e,⟨e1,h1,_⟩,hp1⟩:=hb
         obtain ⟨zs,us,e2,hr,hcmp⟩:=l6 hk' ht ha
         subst e; subst e1; subst e2
         rw [qf]
         have h3:=IB (hcmp n h1)
         have e5:decide (n=n')=decide (n'=n):=by rw [Bool.eq_iff_iff]; simp; exact eq_comm
         rw [e5] at h3
         exact oK h3 (qo hs hr hp1)
       · cases h
     · cases h
   · cases h
end Vx

/-
  An executor of Go code on values of its own: that what it says of the operations that touch no memory is so, and of operands.
-/
namespace Vx
open Go Go.RowKit

def DJ (σ:Sg) (t:List V) (tm:Array Value):Prop:=
 tm.size=t.length∧ ∀ i,aQ σ (gl t i) (tm.getD i undef)

theorem SB (σ:Sg) (a:Option Addr) (n c:Nat):dV σ (agm a n c) [.slice a n c]∧(agm a n c).sz=1:=by
 unfold agm
 split
 · exact ⟨rfl,rfl⟩
 · exact ⟨⟨_,rfl,rfl⟩,rfl⟩

theorem Sy (σ:Sg) (f:Fn) (a b:Array Value):dV σ (ofFn f a b) [.func f a b]∧(ofFn f a b).sz=1:=by
 unfold ofFn
 split
 · rename_i g h
   simp only [Bool.and_eq_true,Array.isEmpty_iff] at h
   obtain ⟨rfl,rfl⟩:=h
   exact ⟨rfl,rfl⟩
 · exact ⟨⟨_,rfl,rfl⟩,rfl⟩

theorem zC (σ:Sg) (v:Value) (h:oneCell v=true):dV σ (Fw v) [v]∧(Fw v).sz=1:=by
 cases v with
 | bool b=> exact ⟨rfl,rfl⟩
 | int k n=>
   simp only [Fw]
   split
   · rename_i hk; exact ⟨⟨rfl,hk⟩,rfl⟩
   · exact ⟨⟨_,rfl,rfl⟩,rfl⟩
 | string s=> exact ⟨rfl,rfl⟩
 | pointer a=> cases a with
   | none=> exact ⟨rfl,rfl⟩
   | some a=> exact ⟨⟨_,rfl,rfl⟩,rfl⟩
 | slice a n c=> exact SB σ a n c
 | func f a b=> exact Sy σ f a b
 | agg _=> cases h
 | tuple _=> cases h
 | _=> exact ⟨⟨_,rfl,rfl⟩,rfl⟩

theorem pO (σ:Sg): ∀ {l:List Value} {r:List L},Dh l=some r→aX σ r l:=by
 intro l r h
 unfold Dh at h
 split at h
 · rename_i ha
   cases h
   induction l with
   | nil=> rfl
   | cons v l ih=>
     simp only [List.all_cons,Bool.and_eq_true] at ha
     exact ⟨[v],l,rfl,(zC σ v ha.1).1,ih ha.2⟩
 · cases h

theorem Oy (σ:Sg) (v:Value):aQ σ (VV v) v:=by
 unfold VV
 split
 · rename_i cs
   split
   · rename_i l hl
     exact ⟨cs.toList,by simp,pO σ hl⟩
   · trivial
 · trivial
 · rename_i h1 h2
   have:oneCell v=true:=by
    cases v with
    | agg cs=> exact absurd rfl (h1 cs)
    | tuple cs=> exact absurd rfl (h2 cs)
    | _=> rfl
   exact ⟨this,(zC σ v this).1⟩

theorem eG {σ:Sg} {t:List V} {a:Act} (h:DJ σ t a.tmps) (x:Operand):aQ σ (fo t x) (a.eval x):=by
 cases x with
 | tmp i=> exact h.2 i
 | const v=> exact Oy σ v
 | global g=> trivial
 | func f=> exact ⟨rfl,rfl⟩

section
variable {P:Program} {w:World} {σ:Sg}

theorem zZ {t:TypeId} {z:List L} (h:Ay P t=some z):
 ∃ v,(zeroValue t).run P w= .ok v w∧aX σ z v.cells.toList∧ ∃ s,jG P t=some s∧Cr z=s:=by
 unfold Ay at h
 cases hi:P.info? t with
 | none=> simp [hi] at h
 | some i=>
   simp only [hi] at h
   cases hz:i.zero with
   | none=> simp [hz] at h
   | some v=>
     simp only [hz] at h
     split at h
     · rename_i l hl
       split at h
       · rename_i hs
         cases h
         refine ⟨v,?_,pO σ hl,i.size,by simp [jG,hi],of_decide_eq_true hs⟩
         simp [zeroValue,run_typeInfo hi,hz]
       · cases h
     · cases h

theorem RU {op:UnOp} {x v:V} {a:Value} (he:Gives (ajp op x) v) (h:aQ σ x a):
 ∃ y,(Op.unary op a).run P w= .ok y w∧aQ σ v y:=by
 unfold ajp at he
 split at he
 · obtain ⟨_,rfl⟩:=au he
   cases GZ h
   exact ⟨_,rfl,eX⟩
 · obtain ⟨_,rfl⟩:=au he
   obtain ⟨rfl,hk⟩:=nH h
   exact ⟨_,by simp [Op.unary,Op.intArith,jN],dN (lD _ _)⟩
 · rename_i k n
   obtain ⟨rfl,hk⟩:=nH h
   cases hs:k.signed with
   | true=> simp only [hs] at he; cases he
   | false=>
     simp only [hs] at he
     obtain ⟨_,rfl⟩:=au he
     have hn:=(bK hs).1 hk
     have hmax:k.max=((2^k.bits - 1:Nat):Int):=by cases k<;> simp [IntKind.max,IntKind.signed,IntKind.bits] at hs ⊢
     have hq:jm k (((2^k.bits - 1:Nat):Int) - n)=true:=by
      rw [bK hs]
      have:0<2^k.bits:=Nat.two_pow_pos _
      omega
     refine ⟨_,?_,dN hq⟩
     simp only [Op.unary,hs,Bool.false_eq_true,if_false,Op.intBits,Sem.run_pure]
     congr 2
     have hall:BitVec.ofInt k.bits k.max=BitVec.allOnes k.bits:=by
      apply BitVec.eq_of_toNat_eq
      have:0<2^k.bits:=Nat.two_pow_pos _
      rw [hmax,tX (by omega) (by omega)]
      simp
     rw [hall,BitVec.allOnes_xor,BitVec.toNat_not,tX hn.1 hn.2]
     have he:((2^k.bits - 1 - n.toNat:Nat):Int)=((2^k.bits - 1:Nat):Int) - n:=by
      have:0<2^k.bits:=Nat.two_pow_pos _
      omega
     rw [he,sQ hq]
 · cases he

theorem D5 (a b:List UInt8):(a==b)=decide (a=b):=by
 rw [Bool.eq_iff_iff]; simp

theorem vag {c:C} {x:Value} (h:aQ σ (.u (.ag c)) x): ∃ xs:List Value,x= .agg xs.toArray∧fD σ c xs:=h

theorem Bv {P:Program} {w:World} (d:Nat) {t e:TypeId} {s b o q:Nat} (hu:P.underlying t=some (.pointer e)) (hz:jG P e=some (s+1)):
 (Op.equalIn (d+1) t (.pointer (some ⟨b,o,none⟩)) (.pointer (some ⟨b,q,none⟩))).run P w= .ok ((⟨b,o,none⟩:Addr)==⟨b,q,none⟩) w:=by
 simp [Op.equalIn,run_underlying hu,run_sizeOf hz,sameAddr]

theorem KD {sy:Bool} {op:BinOp} {t:TypeId} {x y v:V} {ox oy:Operand} {a b:Value} (he:Gives (RJ sy P op t x y) v) (hx:aQ σ x a) (hy:aQ σ y b):
 ∃ z,(do eqGuard op t ox oy a b; binOp op t a b:Sem Value).run P w= .ok z w∧aQ σ v z:=by
 unfold RJ at he
 split at he
 · obtain ⟨rfl,h1⟩:=nH hx
   obtain ⟨rfl,h2⟩:=nH hy
   obtain ⟨z,hz,hr⟩:=Nv (P:=P) (w:=w) (t:=t) he h1 h2
   refine ⟨z,?_,hr⟩
   have hg: ∀ k k' a b,(eqGuard op t ox oy (.int k a) (.int k' b)).run P w= .ok () w:=by
    intro k k' a b; cases op<;> simp [eqGuard]
   simp only [Sem.run_bind,hg,Result.andThen_ok,hz]
 · rename_i a b
   cases GZ hx
   cases GZ hy
   have hg: ∀ a b,(eqGuard op t ox oy (.bool a) (.bool b)).run P w= .ok () w:=by
    intro a b; cases op<;> simp [eqGuard]
   split at he
   · rename_i hu
     obtain ⟨_,rfl⟩:=au he
     refine ⟨_,?_,eX⟩
     simp only [Sem.run_bind,hg,Result.andThen_ok]
     simp [binOp,run_equal_bool w t a b hu]
   · rename_i hu
     obtain ⟨_,rfl⟩:=au he
     refine ⟨_,?_,eX⟩
     simp only [Sem.run_bind,hg,Result.andThen_ok]
     simp [binOp,run_equal_bool w t a b hu]
   · cases he
 · rename_i a b
   obtain ⟨_,e1⟩:=hx
   cases e1
   obtain ⟨_,e2⟩:=hy
   cases e2
   have hg: ∀ a b,(eqGuard op t ox oy (.string a) (.string b)).run P w= .ok () w:=by
    intro a b; cases op<;> simp [eqGuard]
   split at he
   · obtain ⟨hck,rfl⟩:=au he
     have hlt:a.size+b.size<9223372036854775808:=of_decide_eq_true (hck _ (by simp))
     have hmax: ¬ ((a.size+b.size:Nat):Int) > IntKind.i64.max:=by simp [IntKind.max,IntKind.signed,IntKind.bits]; omega
     refine ⟨.string (a++b),?_,⟨rfl,rfl⟩⟩
     simp only [Sem.run_bind,hg,Result.andThen_ok]
     simp only [binOp,Op.stringOp,if_neg hmax,Sem.run_pure]
   · obtain ⟨_,rfl⟩:=au he
     refine ⟨_,?_,eX⟩
     simp only [Sem.run_bind,hg,Result.andThen_ok]
     simp only [binOp,Op.stringOp,Sem.run_pure,D5]
   · obtain ⟨_,rfl⟩:=au he
     refine ⟨_,?_,eX⟩
     simp only [Sem.run_bind,hg,Result.andThen_ok]
     simp only [binOp,Op.stringOp,Sem.run_pure,D5]
   · cases he
 · rename_i la lb
   obtain ⟨xs,rfl,hxs⟩:=vag hx
   obtain ⟨ys,rfl,hys⟩:=vag hy
   have main: ∀ r,(dQ P 20 t && !P.eqGuardType P.depth t && decide (jG P t=some (Cr la)∧mf P t=some true))=true→YU (Cr la+1) la lb=some r→
    (eqGuard op t ox oy (.agg xs.toArray) (.agg ys.toArray)).run P w= .ok () w∧(Op.equal t (.agg xs.toArray) (.agg ys.toArray)).run P w= .ok (dS r) w:=by
    intro r hf hr
    simp only [Bool.and_eq_true,Bool.not_eq_true',decide_eq_true_iff] at hf
    obtain ⟨⟨hf1,hf2⟩,hs,hag⟩:=hf
    refine ⟨run_eqGuard_agg w op t ox oy _ _ hf2,?_⟩
    have hc:=qo hr hxs hys
    have hll: ∀ {a b:List Value} {q:Bool},cmpL a b=some q→a.length=b.length:=by
     intro a
     induction a with
     | nil=> intro b q h; cases b with
       | nil=> rfl
       | cons _ _=> cases h
     | cons x a ih=> intro b q h; cases b with
       | nil=> cases h
       | cons y b=>
         simp only [cmpL] at h
         split at h
         · rename_i h2; simp [ih h2]
         · cases h
    have:=KC (w:=w) 20 10000 (by omega) t hf1 true _ hag hs xs ys (hxs.len rfl) (by rw [← hll hc]; exact hxs.len rfl) _ hc
    simpa [asV,Op.equal,Op.maxDepth] using this
   split at he
   · rename_i r hf hr
     obtain ⟨_,rfl⟩:=au he
     obtain ⟨h1,h2⟩:=main r hf hr
     exact ⟨_,by simp only [Sem.run_bind,h1,Result.andThen_ok,binOp,h2,Sem.run_pure],eX⟩
   · rename_i r hf hr
     obtain ⟨_,rfl⟩:=au he
     obtain ⟨h1,h2⟩:=main r hf hr
     exact ⟨_,by simp only [Sem.run_bind,h1,Result.andThen_ok,binOp,h2,Sem.run_pure],eX⟩
   · cases he
 · rename_i i o j q
   obtain ⟨_,b1,h1,e1⟩:=hx
   cases e1
   obtain ⟨_,b2,h2,e2⟩:=hy
   cases e2
   unfold Vg at he
   have main: ∀ e s,P.underlying t=some (.pointer e)→jG P e=some (s+1)→Nat.beq i j=true→
    (Op.equal t (.pointer (some ⟨b1,o,none⟩)) (.pointer (some ⟨b2,q,none⟩))).run P w= .ok (Nat.beq o q) w:=by
    intro e s hu hz hij
    have hij:=Nat.eq_of_beq_eq_true hij
    subst hij
    rw [h1] at h2
    cases h2
    have hb:((⟨b1,o,none⟩:Addr)==⟨b1,q,none⟩)=Nat.beq o q:=by
     by_cases hoq:o=q
     · subst hoq; simp
     · have h1:Nat.beq o q=false:=by
        cases hc:Nat.beq o q with
        | false=> rfl
        | true=> exact absurd (Nat.eq_of_beq_eq_true hc) hoq
       rw [h1]
       simp [hoq]
    rw [← hb]
    exact Bv 9999 hu hz
   have hg:(eqGuard op t ox oy (.pointer (some ⟨b1,o,none⟩)) (.pointer (some ⟨b2,q,none⟩))).run P w= .ok () w:=by cases op<;> simp [eqGuard]
   split at he
   · rename_i e hij hu
     split at he
     · rename_i s hz
       obtain ⟨_,rfl⟩:=au he
       exact ⟨_,by simp only [Sem.run_bind,hg,Result.andThen_ok,binOp,main e s hu hz hij,Sem.run_pure],eX⟩
     · cases he
   · rename_i e hij hu
     split at he
     · rename_i s hz
       obtain ⟨_,rfl⟩:=au he
       exact ⟨_,by simp only [Sem.run_bind,hg,Result.andThen_ok,binOp,main e s hu hz hij,Sem.run_pure],eX⟩
     · cases he
   · cases he
 · rename_i l
   obtain ⟨_,e2⟩:=hy
   have e2: [b]= [.pointer none]:=e2
   cases e2
   unfold Nz at he
   have hp: ∀ r,ac4 l=some r→ ∃ p:Option Addr,a= .pointer p∧p.isNone=r:=by
    intro r hr
    obtain ⟨_,hl⟩:=hx
    cases l with
    | uH=>
      have e: [a]= [.pointer none]:=hl
      cases e; cases hr
      exact ⟨none,rfl,rfl⟩
    | ptr id off=>
      obtain ⟨b,_,e⟩:=hl
      cases e; cases hr
      exact ⟨_,rfl,rfl⟩
    | jA id z i r'=>
      obtain ⟨b,_,e⟩:=hl
      cases e; cases hr
      exact ⟨_,rfl,rfl⟩
    | rp ts d off=>
      obtain ⟨b,o,ys,e,_⟩:=hl
      cases e; cases hr
      exact ⟨_,rfl,rfl⟩
    | _=> cases hr
   split at he
   · rename_i r e hr hu
     obtain ⟨_,rfl⟩:=au he
     obtain ⟨p,rfl,hpr⟩:=hp _ hr
     have hg:(eqGuard .eql t ox oy (.pointer p) (.pointer none)).run P w= .ok () w:=by simp [eqGuard]
     have hu':P.underlying t=some (.pointer (P.pointee t)):=by simp only [Program.pointee,hu]
     refine ⟨.bool p.isNone,?_,by rw [hpr]; exact eX⟩
     simp only [Sem.run_bind,hg,Result.andThen_ok,binOp,run_equal_pointer_nil w t p hu',Sem.run_pure]
   · rename_i r e hr hu
     obtain ⟨_,rfl⟩:=au he
     obtain ⟨p,rfl,hpr⟩:=hp _ hr
     have hg:(eqGuard .neq t ox oy (.pointer p) (.pointer none)).run P w= .ok () w:=by simp [eqGuard]
     have hu':P.underlying t=some (.pointer (P.pointee t)):=by simp only [Program.pointee,hu]
     refine ⟨.bool (!p.isNone),?_,by rw [hpr]; exact eX⟩
     simp only [Sem.run_bind,hg,Result.andThen_ok,binOp,run_equal_pointer_nil w t p hu',Sem.run_pure]
   · cases he
 · cases he
end
end Vx
