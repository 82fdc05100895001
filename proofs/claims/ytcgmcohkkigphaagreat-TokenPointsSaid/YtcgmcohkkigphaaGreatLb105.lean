/-
  What a form of parameters is read as.
-/
import Derived.Test.YtcgmcohkkigphaaGreatLb104
import Derived.Test.YtcgmcohkkigphaaGreatLb60
namespace Go.Proofs.YtcgmcohkkigphaaGreat
open Go Vx Go.RowKit

def dr (x:List (List D)) (k j:Nat):List D:=(List.take (((x.length:Nat):Int).toNat - (32*(k:Int)).toNat) (List.drop (32*(k:Int)).toNat x)).getD j []
def amr (x:List (List D)) (k:Nat):Nat:=cO 8 ((List.range 32).map fun j=> ((dr x k j).headD (.n 0)).xy.toNat)
abbrev p9 (a b c d e f g h i:Nat):List L:= [.pk .u8 8 32 a, .pk .u8 8 32 b, .pk .u8 8 32 c, .pk .u8 8 32 d, .pk .u8 8 32 e, .pk .u8 8 32 f, .pk .u8 8 32 g, .pk .u8 8 32 h, .pk .u8 8 32 i]
def n9 (x:List (List D)) (k i:Nat):Nat:=bif Nat.blt i k then amr x i else 0
def c9 (x:List (List D)) (k:Nat):List L:=p9 (n9 x k 0) (n9 x k 1) (n9 x k 2) (n9 x k 3) (n9 x k 4) (n9 x k 5) (n9 x k 6) (n9 x k 7) (n9 x k 8)
end Go.Proofs.YtcgmcohkkigphaaGreat
