/- What is proved: sameDeed and sameDeeds of equal deeds. Conditions: those of each contract. -/
import Derived.Test.YtcejdgnfmcgopaaDoorPa
import Derived.Test.YtcejdgnfmcgopaaDoorDls
import Derived.Deep.RegionLaw
namespace Go.Proofs.YtcejdgnfmcgopaaDoor
open Go.RowKit
set_option maxRecDepth 100000 in
set_option maxHeartbeats 2000000 in
theorem sameDeed_any (k : Int) (A B : Option Addr) (c d : Nat) (xs : List Int) (w : World) (h1 : Ints w A c xs) (h2 : Ints w B d xs) :
    Calls Tryd.prog 9 #[.agg #[.int .i64 k, .slice A xs.length c], .agg #[.int .i64 k, .slice B xs.length d]] w fun e w' => e = .returned (.bool true) ∧ Ext w w' := by
  have HC0 := fun W (q : Ext w W) => sameInts_any A B c d xs xs W (h1.ext q) (h2.ext q)
  rw [eqI_refl] at HC0
  have HC := Lib.hid HC0
  clear HC0 h1 h2
  obtain ⟨w2, hw2⟩ : ∃ W, (w.alloc (.cells #[.int .i64 k, .slice A xs.length c] 25)).alloc (.cells #[.int .i64 k, .slice B xs.length d] 25) = W := ⟨_, rfl⟩
  obtain ⟨b0, b1, hx2, -⟩ := two_blocks (w := w) (o1 := .cells #[.int .i64 k, .slice A xs.length c] 25) (o2 := .cells #[.int .i64 k, .slice B xs.length d] 25) (w1 := w2) (by rw [hw2]; exact Ext.refl _)
  obtain ⟨p0, p1⟩ := two_cells b0
  obtain ⟨q0, q1⟩ := two_cells b1
  have HX2 := Lib.hid hx2
  clear b0 b1 hx2
  go_enter Tryd.func9, Tryd.ntmps9
  go_wp2_with fail
  refine (HC.out _ HX2.out).mono ?_
  rintro e w3 ⟨rfl, m, rfl⟩
  go_wp2_with fail
  go_ret
  exact ⟨rfl, by apply Ext.drewN'; exact HX2.out⟩
end Go.Proofs.YtcejdgnfmcgopaaDoor
