/- What is proved: l20Pair draws rows and two numbers; DrawRestAt and DrawDividedAt return them to be read. Conditions: those of each contract. -/
import Derived.Test.YtimelegkgaimjaaDrTree
import Derived.Test.YtimelegkgaimjaaOpen
namespace Go.Proofs.Ytimelegkgaimjaa
open Go.RowKit
set_option maxRecDepth 100000 in
set_option maxHeartbeats 2000000 in
theorem l20Pair_any {w : World} {B g : Nat} {u : Int} (hR : RdU w B g u) (hB : B ≤ w.heap.size) (hu : u ≤ 200000) :
    Calls Try.prog 56 #[.pointer (some ⟨g, 0, none⟩)] w fun e w' => ∃ A c V D a b, e = .returned (.tuple #[.slice A (List.length D) c, .int .i64 a, .int .i64 b]) ∧ ObjM w.heap.size w' A c D V ∧ RdU w' B g (u + 100) ∧ ExtG g w w' := by
  have hg := hR.lt
  have HR := Lib.hid hR
  clear hR
  go_enter Try.func56, Try.ntmps56
  go_wp2_with fail
  refine (l20Tree_any HR.out hB (by omega) 14 (by omega) (by omega)).mono ?_
  rintro e w1 ⟨A, c, V, D, rfl, hO, hD, hR1, hX1⟩
  have HO := Lib.hid hO
  have HR1 := Lib.hid hR1
  have HX1 := Lib.hid hX1
  clear hO hR1 hX1 HR
  obtain ⟨M, hM, hM0, hM1⟩ : ∃ M : Int, (∀ x : Nat, x = D.length → max (x : Int) 1 = M) ∧ 1 ≤ M ∧ M ≤ 6 := ⟨max (D.length : Int) 1, fun x hx => by rw [hx], by omega, by omega⟩
  by_cases h1 : 1 ≤ D.length
  · have h1' : (1 : Int) < (D.length : Nat) ∨ (D.length : Int) = 1 := by omega
    have hm1 : (1 : Int) ≤ (D.length : Nat) := by omega
    clear hM
    go_wp2_with fail
    refine (pickU HR1.out (D.length : Int) (by omega) (by omega) (by omega)).mono ?_
    rintro e w2 ⟨v, rfl, v0, v1, hR2, hO2⟩
    have HR2 := Lib.hid hR2
    have HO2 := Lib.hid (HO.out.rd hO2 (by omega))
    have HX2 := Lib.hid (HX1.out.rd hO2)
    clear hR2 hO2 HO HX1 HR1
    go_wp2_with fail
    refine (pickU HR2.out 20 (by omega) (by omega) (by omega)).mono ?_
    rintro e w3 ⟨p, rfl, p0, p1, hR3, hO3⟩
    have HR3 := Lib.hid hR3
    have HO3 := Lib.hid (HO2.out.rd hO3 (by omega))
    have HX3 := Lib.hid (HX2.out.rd hO3)
    clear hR3 hO3 HO2 HX2 HR2
    go_wp2_with fail
    refine (pickU HR3.out (D.length : Int) (by omega) (by omega) (by omega)).mono ?_
    rintro e w4 ⟨q, rfl, q0, q1, hR4, hO4⟩
    have HR4 := Lib.hid hR4
    have HO4 := Lib.hid (HO3.out.rd hO4 (by omega))
    have HX4 := Lib.hid (HX3.out.rd hO4)
    clear hR4 hO4 HO3 HX3 HR3
    go_wp2
    (try simp only [Exit.inBlock, Exit.then])
    refine bodyPost_ret (results_tmp3 rfl _ _ _) rfl ?_
    exact ⟨A, c, V, D, _, _, rfl, HO4.out, HR4.out.le (by omega), HX4.out⟩
  · have h0' : (D.length : Int) < 1 := by omega
    clear hM
    go_wp2_with fail
    refine (pickU HR1.out 1 (by omega) (by omega) (by omega)).mono ?_
    rintro e w2 ⟨v, rfl, v0, v1, hR2, hO2⟩
    have HR2 := Lib.hid hR2
    have HO2 := Lib.hid (HO.out.rd hO2 (by omega))
    have HX2 := Lib.hid (HX1.out.rd hO2)
    clear hR2 hO2 HO HX1 HR1
    go_wp2_with fail
    refine (pickU HR2.out 20 (by omega) (by omega) (by omega)).mono ?_
    rintro e w3 ⟨p, rfl, p0, p1, hR3, hO3⟩
    have HR3 := Lib.hid hR3
    have HO3 := Lib.hid (HO2.out.rd hO3 (by omega))
    have HX3 := Lib.hid (HX2.out.rd hO3)
    clear hR3 hO3 HO2 HX2 HR2
    go_wp2_with fail
    refine (pickU HR3.out 1 (by omega) (by omega) (by omega)).mono ?_
    rintro e w4 ⟨q, rfl, q0, q1, hR4, hO4⟩
    have HR4 := Lib.hid hR4
    have HO4 := Lib.hid (HO3.out.rd hO4 (by omega))
    have HX4 := Lib.hid (HX3.out.rd hO4)
    clear hR4 hO4 HO3 HX3 HR3
    go_wp2
    (try simp only [Exit.inBlock, Exit.then])
    refine bodyPost_ret (results_tmp3 rfl _ _ _) rfl ?_
    exact ⟨A, c, V, D, _, _, rfl, HO4.out, HR4.out.le (by omega), HX4.out⟩
set_option maxHeartbeats 1000000 in
theorem drawDividedAt_any (A : Option Addr) (n c : Nat) (w : World) (h : Byt w A n c) :
    Calls Try.prog 28 #[.slice A n c] w fun e w' => ∃ A1 c1 D a b, e = .returned (.tuple #[.slice A1 (List.length D) c1, .int .i64 a, .int .i64 b]) ∧ Mat w' A1 c1 D ∧ Ext w w' := by
  go_enter Try.func28, Try.ntmps28
  go_wp2_with fail
  refine (open_any A n c w h).mono ?_
  rintro e w1 ⟨g, rfl, hx1, hg, hR⟩
  have HR := Lib.hid hR
  have HX := Lib.hid hx1
  clear hR hx1
  go_wp2_with fail
  refine (l20Pair_any HR.out (Nat.le_refl _) (by omega)).mono ?_
  rintro e w2 ⟨A', c', V, D, a, b, rfl, hO, hR2, hX2⟩
  have HM := Lib.hid hO.mat
  have HX3 := Lib.hid (hX2.ext HX.out hg)
  clear hO hR2 hX2
  go_wp2
  (try simp only [Exit.inBlock, Exit.then])
  refine bodyPost_ret (results_tmp3 rfl _ _ _) rfl ?_
  exact ⟨_, _, D, a, b, rfl, HM.out, HX3.out⟩
end Go.Proofs.Ytimelegkgaimjaa
