/- What is proved: DrawSumFrom and DrawMediansOf return rows and weights to be read. No condition. -/
import Derived.Test.YtpfbnaachibbfaaDrWt
namespace Go.Proofs.Ytpfbnaachibbfaa
open Go.RowKit
set_option maxHeartbeats 2000000 in
theorem drawSumFrom_any (A : Option Addr) (n c : Nat) (w : World) (h : Byt w A n c) :
    Calls Try.prog 62 #[.slice A n c] w fun e w' => ∃ A1 c1 D A2 c2 ws l, e = .returned (.tuple #[.slice A1 (List.length D) c1, .slice A2 (List.length ws) c2, .int .i64 l]) ∧ Mat w' A1 c1 D ∧ Ints w' A2 c2 ws ∧ Ext w w' := by
  go_enter Try.func62, Try.ntmps62
  go_wp2_with fail
  refine (open_any A n c w h).mono ?_
  rintro e w1 ⟨g, rfl, hx1, hg, hR⟩
  have hlt := hR.lt
  have HR := Lib.hid hR
  have HX := Lib.hid hx1
  clear hR hx1
  go_wp2_with fail
  refine (l20Weighted_any HR.out (Nat.le_refl _) (by omega)).mono ?_
  rintro e w2 ⟨A1, c1, D, A2, c2, ws, b, rfl, hU, -, hb1, hb2, hO, hl7, hR2, hX2⟩
  have HU := Lib.hid hU
  have HO := Lib.hid hO
  have HR2 := Lib.hid hR2
  have HX2 := Lib.hid hX2
  clear hU hO hR2 hX2 HR
  go_wp2_with fail
  refine (pickU HR2.out 7 (by omega) (by omega) (by omega)).mono ?_
  rintro e w3 ⟨v, rfl, v0, v1, hR3, hO3⟩
  have HR3 := Lib.hid hR3
  have HU3 := Lib.hid (HU.out.rd hO3)
  have HX3 := Lib.hid (HX2.out.rd hO3)
  have HO3 := Lib.hid (HO.out.keep fun q hq hq2 => hO3.2.2.2.2 q (by have := (HO.out.ge hq).1; omega))
  clear hR3 hO3 HR2 HU HX2 HO
  go_wp2_with fail
  refine (pickU HR3.out 20 (by omega) (by omega) (by omega)).mono ?_
  rintro e w4 ⟨p, rfl, p0, p1, hR4, hO4⟩
  have HU4 := Lib.hid (HU3.out.rd hO4).mat
  have HX4 := Lib.hid ((HX3.out.rd hO4).ext HX.out hg)
  have HO4 := Lib.hid (HO3.out.keep fun q hq hq2 => hO4.2.2.2.2 q (by have := (HO3.out.ge hq).1; omega)).ints.2
  clear hR4 hO4 HR3 HU3 HX3 HO3
  go_wp2
  (try simp only [Exit.inBlock, Exit.then])
  refine bodyPost_ret (results_tmp3 rfl _ _ _) rfl ?_
  exact ⟨A1, c1, D, A2, c2, ws, _, rfl, HU4.out, HO4.out, HX4.out⟩
end Go.Proofs.Ytpfbnaachibbfaa
