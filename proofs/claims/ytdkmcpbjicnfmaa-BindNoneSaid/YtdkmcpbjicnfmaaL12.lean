/-
  What signatures come to, in points of the group.
-/
import Derived.Test.YtdkmcpbjicnfmaaL11
import Derived.Test.YtdkmcpbjicnfmaaL9
import Derived.Test.YtdkmcpbjicnfmaaL8
namespace Go.Proofs.Ytdkmcpbjicnfmaa
open Go Vx Go.RowKit

theorem restP_mod (a : Nat) : restP a = a % lP := restP_eq a
end Go.Proofs.Ytdkmcpbjicnfmaa

/-
  The law's known signature, worked out.
-/
namespace Go.Proofs.Ytdkmcpbjicnfmaa
open Go Vx Go.RowKit

def greatC (s : Nat) (x : List (List D)) : Nat := hpackW (blkN k512 (blw x) (w8of s)).toL
def greatsC (s : Nat) (p : List (List D)) : Nat → Nat
 | 0 => s
 | i + 1 => greatC (greatsC s p i) ((p.drop (128 * i)).take 128)
def shaC (x : List (List D)) : Nat := outN (greatsC (hpackW k512.h) (hrestL 128 16 x (x.length : Nat)) ((hrestL 128 16 x (x.length : Nat)).length / 128))
theorem greatN_C (s : Nat) (x : List (List D)) : greatN s x = greatC s x := by unfold greatN; rw [seal_eq]; rfl
theorem greatsN_C (s : Nat) (p : List (List D)) : ∀ i, greatsN s p i = greatsC s p i
 | 0 => rfl
 | i + 1 => by rw [greatsN, greatsC, greatsN_C s p i, greatN_C]
theorem sha_C (x : List (List D)) : sha512N x = shaC x := by unfold sha512N; rw [seal_eq, greatsN_C]; rfl
abbrev r5 : Nat := 57508903943393600895749509425442319287243818866879131272463261763848326966948
end Go.Proofs.Ytdkmcpbjicnfmaa
