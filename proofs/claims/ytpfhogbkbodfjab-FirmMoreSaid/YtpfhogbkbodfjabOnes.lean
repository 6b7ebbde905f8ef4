import Derived.Test.YtpfhogbkbodfjabBase
import Derived.Laws.BitsAllLaws
namespace Go.Proofs.Ytpfhogbkbodfjab
open Go.RowKit
set_option linter.unusedVariables false
set_option linter.unusedSimpArgs false
namespace Ones
def s1 (x : Int) : Int := IntKind.u64.wrap (bits .and .u64 (x / 2) 6148914691236517205 + bits .and .u64 x 6148914691236517205)
def s2 (x : Int) : Int := IntKind.u64.wrap (bits .and .u64 (x / 4) 3689348814741910323 + bits .and .u64 x 3689348814741910323)
def s3 (x : Int) : Int := bits .and .u64 (IntKind.u64.wrap (x / 16 + x)) 1085102592571150095
def s4 (x : Int) : Int := IntKind.u64.wrap (x + x / 256)
def s5 (x : Int) : Int := IntKind.u64.wrap (x + x / 65536)
def s6 (x : Int) : Int := IntKind.u64.wrap (x + x / 4294967296)
set_option maxHeartbeats 400000 in
theorem ones_raw (b : Nat) (w : World) (hb : b < 2 ^ 64) :
    Calls Try.prog 86 #[.int .u64 (b : Int)] w fun e w' => e = .returned (.int .i64 (bits .and .i64 (wrap64 (s6 (s5 (s4 (s3 (s2 (s1 b))))))) 127)) ∧ w = w' := by
  go_enter Try.func86, Try.ntmps86
  go_wp2
  go_ret
  exact ⟨rfl, rfl⟩
end Ones
end Go.Proofs.Ytpfhogbkbodfjab
