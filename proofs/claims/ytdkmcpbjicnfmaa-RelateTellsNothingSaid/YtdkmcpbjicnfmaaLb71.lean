/-
  The law's known signature, worked out.
-/
import Derived.Test.YtdkmcpbjicnfmaaLb70
namespace Go.Proofs.Ytdkmcpbjicnfmaa
open Go Vx Go.RowKit

abbrev r5 : Nat := 57508903943393600895749509425442319287243818866879131272463261763848326966948
end Go.Proofs.Ytdkmcpbjicnfmaa
