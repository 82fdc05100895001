/-
  Contracts of the document's numbers: the digits of p.
-/
import Derived.Test.YtdkmcpbjicnfmaaL2
import Derived.Test.YtdkmcpbjicnfmaaU1
namespace Go.Proofs.Ytdkmcpbjicnfmaa
open Go Vx Go.RowKit
end Go.Proofs.Ytdkmcpbjicnfmaa

/-
  Contracts of the document's numbers: Reduce.
-/
namespace Go.Proofs.Ytdkmcpbjicnfmaa
open Go Vx Go.RowKit
end Go.Proofs.Ytdkmcpbjicnfmaa

/-
  Contracts of the document's numbers: Words.
-/
namespace Go.Proofs.Ytdkmcpbjicnfmaa
open Go Vx Go.RowKit

theorem psum_digits (n : Nat) : ∀ m, psum (fun i => ((digit 32 n i : Nat) : Int)) m = ((n % 2 ^ (32 * m) : Nat) : Int)
 | 0 => by simp [psum, Nat.mod_one]
 | m + 1 => by
   rw [psum, psum_digits n m, show 32 * (m + 1) = 32 * m + 32 from rfl, Nat.pow_add, Nat.mod_mul]
   unfold digit
   rw [Int.natCast_add, Int.natCast_mul, Int.mul_comm]
   simp
end Go.Proofs.Ytdkmcpbjicnfmaa

/-
  Contracts of the document's numbers: Mul.
-/
namespace Go.Proofs.Ytdkmcpbjicnfmaa
open Go Vx Go.RowKit

def al (r : Nat → Int) : List L := [.int .u64 (r 0), .int .u64 (r 1), .int .u64 (r 2), .int .u64 (r 3), .int .u64 (r 4), .int .u64 (r 5), .int .u64 (r 6), .int .u64 (r 7), .int .u64 (r 8), .int .u64 (r 9), .int .u64 (r 10), .int .u64 (r 11), .int .u64 (r 12), .int .u64 (r 13), .int .u64 (r 14), .int .u64 (r 15)]
end Go.Proofs.Ytdkmcpbjicnfmaa
