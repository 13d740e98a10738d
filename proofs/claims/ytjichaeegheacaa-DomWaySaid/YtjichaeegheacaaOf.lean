
/-
  bits.Of: a set of some numbers.
-/
import Derived.Test.YtjichaeegheacaaBitsA
namespace Go.Proofs.Ytjichaeegheacaa
open Go Go.RowKit

theorem setA_zero : setA 0 = #[.int .u64 0, .int .u64 0, .int .u64 0, .int .u64 0, .int .u64 0, .int .u64 0, .int .u64 0, .int .u64 0, .int .u64 0, .int .u64 0, .int .u64 0, .int .u64 0, .int .u64 0, .int .u64 0, .int .u64 0, .int .u64 0] := by
  kernel_rfl

theorem With_zero (A : Option Addr) (c : Nat) (xs : List Int) (w : World) (hr : RI w A xs) :
    Calls Try.prog 34 #[.agg #[.int .u64 0, .int .u64 0, .int .u64 0, .int .u64 0, .int .u64 0, .int .u64 0, .int .u64 0, .int .u64 0, .int .u64 0, .int .u64 0, .int .u64 0, .int .u64 0, .int .u64 0, .int .u64 0, .int .u64 0, .int .u64 0], .slice A xs.length c] w (Fresh w (.agg (setA (withL 0 xs)))) := by
  have := With_any 0 A c xs w hr
  rw [setA_zero] at this
  exact this

end Go.Proofs.Ytjichaeegheacaa
