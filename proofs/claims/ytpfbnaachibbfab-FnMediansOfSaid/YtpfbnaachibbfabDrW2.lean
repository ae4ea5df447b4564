/- What is proved: DrawSumFrom and DrawMediansOf return rows and weights to be read. No condition. -/
import Derived.Test.YtpfbnaachibbfabDrWt
namespace Go.Proofs.Ytpfbnaachibbfab
open Go.RowKit
set_option maxRecDepth 100000 in
set_option maxHeartbeats 2000000 in
theorem drawMediansOf_any (A : Option Addr) (n c : Nat) (w : World) (h : Byt w A n c) :
    Calls Try.prog 33 #[.slice A n c] w fun e w' => ∃ A1 c1 D A2 c2 ws, e = .returned (.tuple #[.slice A1 (List.length D) c1, .slice A2 (List.length ws) c2]) ∧ Mat w' A1 c1 D ∧ D.length ≤ 6 ∧ Ints w' A2 c2 ws ∧ Ext w w' := by
  go_enter Try.func33, Try.ntmps33
  go_wp2_with fail
  refine (open_any A n c w h).mono ?_
  rintro e w1 ⟨g, rfl, hx1, hg, hR⟩
  have HR := Lib.hid hR
  have HX := Lib.hid hx1
  clear hR hx1
  go_wp2_with fail
  refine (l20Weighted_any HR.out (Nat.le_refl _) (by omega)).mono ?_
  rintro e w2 ⟨A1, c1, D, A2, c2, ws, b, rfl, hU, h6, hb1, hb2, hO, hl7, hR2, hX2⟩
  have HU := Lib.hid hU.mat
  have HO := Lib.hid hO.ints.2
  have HX2 := Lib.hid (hX2.ext HX.out hg)
  clear hU hO hR2 hX2 HR
  go_wp2
  go_ret2
  exact ⟨A1, c1, D, A2, c2, ws, rfl, HU.out, h6, HO.out, HX2.out⟩
end Go.Proofs.Ytpfbnaachibbfab
