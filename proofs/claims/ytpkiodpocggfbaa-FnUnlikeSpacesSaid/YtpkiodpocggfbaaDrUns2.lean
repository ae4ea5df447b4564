/- What is proved: DrawUnlikeSpaces returns two lists of rows to be read. No condition. -/
import Derived.Test.YtpkiodpocggfbaaDrUns
namespace Go.Proofs.Ytpkiodpocggfbaa
open Go.RowKit
def DUns (w : World) (e : Ending) (w' : World) : Prop :=
  ∃ A1 c1 D A2 c2 E, e = .returned (.tuple #[.slice A1 (List.length D) c1, .slice A2 (List.length E) c2]) ∧ Mat w' A1 c1 D ∧ Mat w' A2 c2 E ∧ Ext w w'
set_option maxRecDepth 100000 in
set_option maxHeartbeats 4000000 in
theorem drawUnlikeSpaces_any (A : Option Addr) (n c : Nat) (w : World) (h : Byt w A n c) :
    Calls Try.prog 4 #[.slice A n c] w (DUns w) := by
  go_enter Try.func4, Try.ntmps4
  go_wp2_with fail
  refine (open_any A n c w h).mono ?_
  rintro e w1 ⟨g, rfl, hx1, hg, hR⟩
  have hlt := hR.lt
  have HR := Lib.hid hR
  have HX := Lib.hid hx1
  clear hR hx1
  go_wp2_with fail
  refine (l20Space_any HR.out (Nat.le_refl _) (by omega) 3 14 (by omega) (by omega) (by omega) (by omega)).mono ?_
  rintro e w2 ⟨A1, c1, V1, D, rfl, hO1, h61, hR2, hX2⟩
  have HO1 := Lib.hid hO1
  have HR2 := Lib.hid hR2
  have HX2 := Lib.hid hX2
  have HB2 : w1.heap.size ≤ w2.heap.size := hX2.size
  clear hO1 hR2 hX2 HR
  have HSP := Lib.hid (fun W (q : Mat W A1 c1 D) => SpaceOk_any A1 c1 D W q)
  cases hs : spB D with
  | false =>
    rw [hs] at HSP
    clear hs
    go_wp2_with fail
    refine (HSP.out _ HO1.out.mat).mono ?_
    rintro e w3 ⟨rfl, m3, rfl⟩
    go_wp2_with fail
    refine (pickU (HR2.out.ext (Ext.drewN _ m3) HB2) 12 (by omega) (by omega) (by omega)).mono ?_
    rintro e w4 ⟨v, rfl, v0, v1, hR4, hO4⟩
    have HO4 := Lib.hid ((HO1.out.ext (Ext.drewN _ m3)).rd hO4 (by omega))
    have HX4 := Lib.hid ((HX2.out.drewN m3).rd hO4)
    have HR4 := Lib.hid hR4
    have hB4 : w1.heap.size ≤ w4.heap.size := HX4.out.size
    clear hR4 hO4 HR2 HX2
    obtain ⟨q, hq1, hq2, hq3, hq4⟩ : ∃ q : Int, v.tdiv 11 = q ∧ v / 11 = q ∧ 0 ≤ q ∧ q ≤ 1 := ⟨v / 11, Int.tdiv_eq_ediv_of_nonneg v0, rfl, by omega, by omega⟩
    go_wp2_with fail
    refine (l20Space_any HR4.out hB4 (by omega) (3 + q) 14 (by omega) (by omega) (by omega) (by omega)).mono ?_
    rintro e w5 ⟨A2, c2, V2, E, rfl, hO5, h62, hR5, hX5⟩
    have HF := Lib.hid (show DUns w (.returned (.tuple #[.slice A1 D.length c1, .slice A2 E.length c2])) w5 from
      ⟨A1, c1, D, A2, c2, E, rfl, (HO4.out.g hX5 (by omega)).mat, hO5.mat, (HX4.out.trans hX5).ext HX.out hg⟩)
    clear hO5 hR5 hX5 HO4 HX4 HR4 HO1 HX HSP
    go_wp2
    go_ret2
    exact HF.out
  | true =>
    rw [hs] at HSP
    clear hs
    go_wp2_with fail
    refine (HSP.out _ HO1.out.mat).mono ?_
    rintro e w3 ⟨rfl, m3, rfl⟩
    go_wp2_with fail
    refine (pickU (HR2.out.ext (Ext.drewN _ m3) HB2) 3 (by omega) (by omega) (by omega)).mono ?_
    rintro e w4 ⟨v, rfl, v0, v1, hR4, hO4⟩
    have HO4 := Lib.hid ((HO1.out.ext (Ext.drewN _ m3)).rd hO4 (by omega))
    have HX4 := Lib.hid ((HX2.out.drewN m3).rd hO4)
    have HR4 := Lib.hid hR4
    have hB4 : w1.heap.size ≤ w4.heap.size := HX4.out.size
    clear hR4 hO4 HR2 HX2
    by_cases hv : v = 0
    · subst hv
      go_wp2_with fail
      refine (l20Order_any HR4.out hB4 (by omega) D.length h61).mono ?_
      rintro e w5 ⟨A2, c2, xs, rfl, hO5, hR5, hX5⟩
      have HM5 := Lib.hid (HO4.out.g hX5 (by omega)).mat
      have HI5 := Lib.hid hO5.ints.2
      have HX5 := Lib.hid (HX4.out.trans hX5)
      clear hO5 hR5 hX5 HO4 HX4 HR4 HO1 HSP
      go_wp2_with fail
      refine (sOrdered_any A1 c1 D A2 c2 xs w5 HM5.out HI5.out).mono ?_
      rintro e w6 ⟨A3, c3, V3, rfl, hL, -, -, hx6⟩
      have HF := Lib.hid (show DUns w (.returned (.tuple #[.slice A1 D.length c1, .slice A3 (ordV D xs).length c3])) w6 from
        ⟨A1, c1, D, A3, c3, _, rfl, HM5.out.ext hx6, hL.mat, (HX5.out.ext HX.out hg).trans hx6⟩)
      clear hL hx6 HM5 HI5 HX5
      go_wp2
      go_ret2
      exact HF.out
    · have hv' : (v == 0) = false := beq_eq_false_iff_ne.2 hv
      go_wp2_with fail
      refine (pickU HR4.out 12 (by omega) (by omega) (by omega)).mono ?_
      rintro e w7 ⟨x, rfl, x0, x1, hR7, hO7⟩
      have HO7 := Lib.hid (HO4.out.rd hO7 (by omega))
      have HX7 := Lib.hid (HX4.out.rd hO7)
      have HR7 := Lib.hid hR7
      have hB7 : w1.heap.size ≤ w7.heap.size := HX7.out.size
      clear hR7 hO7 HR4 HX4 HO4
      obtain ⟨q, hq1, hq2, hq3, hq4⟩ : ∃ q : Int, x.tdiv 11 = q ∧ x / 11 = q ∧ 0 ≤ q ∧ q ≤ 1 := ⟨x / 11, Int.tdiv_eq_ediv_of_nonneg x0, rfl, by omega, by omega⟩
      go_wp2_with fail
      refine (l20Space_any HR7.out hB7 (by omega) (3 + q) 14 (by omega) (by omega) (by omega) (by omega)).mono ?_
      rintro e w5 ⟨A2, c2, V2, E, rfl, hO5, h62, hR5, hX5⟩
      have HF := Lib.hid (show DUns w (.returned (.tuple #[.slice A1 D.length c1, .slice A2 E.length c2])) w5 from
        ⟨A1, c1, D, A2, c2, E, rfl, (HO7.out.g hX5 (by omega)).mat, hO5.mat, (HX7.out.trans hX5).ext HX.out hg⟩)
      clear hO5 hR5 hX5 HO7 HX7 HR7 HO1 HX HSP
      go_wp2
      go_ret2
      exact HF.out
end Go.Proofs.Ytpkiodpocggfbaa
