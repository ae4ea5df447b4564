/- What is proved: l20Split draws rows and a number. Conditions: those of the contract. -/
import Derived.Test.YtjaigidlpfdfiaaDrTree
import Derived.Test.YtjaigidlpfdfiaaSplit
import Derived.Test.YtjaigidlpfdfiaaOpen
import Derived.Deep.RegionHeld3
namespace Go.Proofs.Ytjaigidlpfdfiaa
open Go.RowKit
set_option maxRecDepth 100000 in
set_option maxHeartbeats 2000000 in
theorem l20Split_any {w : World} {B g : Nat} {u : Int} (hR : RdU w B g u) (hB : B ≤ w.heap.size) (hu : u ≤ 200000) :
    Calls Try.prog 36 #[.pointer (some ⟨g, 0, none⟩)] w fun e w' => ∃ A c V D l, e = .returned (.tuple #[.slice A (List.length D) c, .int .i64 l]) ∧ ObjM w.heap.size w' A c D V ∧ RdU w' B g (u + 100) ∧ ExtG g w w' := by
  have hg := hR.lt
  have HR := Lib.hid hR
  clear hR
  go_enter Try.func36, Try.ntmps36
  go_wp2_with fail
  refine (l20Tree_any HR.out hB (by omega) 14 (by omega) (by omega)).mono ?_
  rintro e w1 ⟨A, c, V, D, rfl, hO, hD, hR1, hX1⟩
  have HO := Lib.hid hO
  have HR1 := Lib.hid hR1
  have HX1 := Lib.hid hX1
  clear hO hR1 hX1 HR
  have fin : ∀ (l : Int) (w5 w6 : World), Only (fun x => x = g) w1.drew w5 → Only (fun x => x = g) w5 w6 → RdU w6 B g (u + 90 + 1 + 1) → ∃ A' c' V' D' l', (Ending.returned (.tuple #[.slice A D.length c, .int .i64 l]) = .returned (.tuple #[.slice A' (List.length D') c', .int .i64 l'])) ∧ ObjM w.heap.size w6 A' c' D' V' ∧ RdU w6 B g (u + 100) ∧ ExtG g w w6 := fun l w5 w6 h5 h6 h7 =>
    ⟨A, c, V, D, l, rfl, ((HO.out.ext (Ext.drewN w1 1)).rd h5 (by omega)).rd h6 (by omega), h7.le (by omega), ((HX1.out.on (Ext.drewN w1 1)).rd h5).rd h6⟩
  have HF := Lib.hid fin
  have HR2 := Lib.hid (show RdU w1.drew B g (u + 90) from HR1.out.ext (Ext.drewN w1 1) (by have := HX1.out.size; omega))
  obtain ⟨k, hk⟩ : ∃ k : Nat, D.length = k := ⟨_, rfl⟩
  rw [hk] at hD HF
  rw [hk]
  clear fin HO HX1 HR1 hk
  go_wp2_with fail
  by_cases h1 : 2 ≤ k
  · obtain ⟨P, hP⟩ : ∃ P : Int, (2 : Int) ^ (k - 1) = P := ⟨_, rfl⟩
    have hP2 : 2 ≤ P ∧ P ≤ 32 := by
      rw [← hP]
      rcases (show k = 2 ∨ k = 3 ∨ k = 4 ∨ k = 5 ∨ k = 6 by omega) with rfl | rfl | rfl | rfl | rfl <;> decide
    obtain ⟨P2, P32⟩ := hP2
    have f1 : ¬ (6 : Int) < (k : Nat) := by omega
    have f1' : ((k : Nat) : Int) ≤ 6 := by omega
    have f2 : IntKind.i64.wrap ((k : Int) - 1) = (k : Int) - 1 := IntWalk.i64_in _ ⟨by omega, by omega⟩
    have f3 : ¬ ((k : Int) - 1 < 0) := by omega
    have f3' : (0 : Int) ≤ (k : Int) - 1 := by omega
    have f3'' : (k : Int) - 1 ≤ 64 := by omega
    have f0 : (if (6 : Int) < (k : Nat) then (6 : Int) else (k : Nat)) = (k : Int) := if_neg f1
    have fM : (if (k : Int) - 1 < 0 then (0 : Int) else (k : Int) - 1) = (k : Int) - 1 := if_neg f3
    have f4 : ((k : Int) - 1).toNat = k - 1 := by omega
    have f5 : IntKind.i64.wrap P = P := IntWalk.i64_in _ ⟨by omega, by omega⟩
    have f6 : IntKind.i64.wrap (P - 1) = P - 1 := IntWalk.i64_in _ ⟨by omega, by omega⟩
    have f7 : ¬ (P - 1 < 1) := by omega
    have f7' : (1 : Int) ≤ P - 1 := by omega
    have fN : (if P - 1 < 1 then (1 : Int) else P - 1) = P - 1 := if_neg f7
    have f8 : ¬ (P - 1 = 0) := by omega
    have f8' : (P - 1 == 0) = false := beq_eq_false_iff_ne.2 f8
    have f9 : wrap64 P = P := IntWalk.wrap64_in _ ⟨by omega, by omega⟩
    have f10 : wrap64 (P - 1) = P - 1 := IntWalk.wrap64_in _ ⟨by omega, by omega⟩
    have f11 : wrap64 ((k : Int) - 1) = (k : Int) - 1 := IntWalk.wrap64_in _ ⟨by omega, by omega⟩
    go_region_held3 (fun _ => True) (trivial)
      (first
        | (go_at_call 37; refine (pickU hR5 20 (by omega) (by omega) (by omega)).mono ?_; rintro e w6 ⟨v6, rfl, b0, b1, hR6, hO6⟩)
        | (go_at_call 37; refine (pickU HR2.out 32 (by omega) (by omega) (by omega)).mono ?_; rintro e w5 ⟨v5, rfl, a0, a1, hR5, hO5⟩))
    all_goals
      go_wp2
      go_ret2
      exact HF.out _ _ _ hO5 hO6 hR6
  · have f1 : ¬ (6 : Int) < (k : Nat) := by omega
    have f0 : (if (6 : Int) < (k : Nat) then (6 : Int) else (k : Nat)) = (k : Int) := if_neg f1
    have f2 : IntKind.i64.wrap ((k : Int) - 1) = (k : Int) - 1 := IntWalk.i64_in _ ⟨by omega, by omega⟩
    have fM : (if (k : Int) - 1 < 0 then (0 : Int) else (k : Int) - 1) = 0 := by split <;> omega
    have g1 : IntKind.i64.wrap 1 = 1 := by decide
    have g2 : IntKind.i64.wrap 0 = 0 := by decide
    have g3 : IntKind.i64.wrap (1 - 1) = 0 := by decide
    clear h1
    go_region_held3 (fun _ => True) (trivial)
      (first
        | (go_at_call 37; refine (pickU hR5 20 (by omega) (by omega) (by omega)).mono ?_; rintro e w6 ⟨v6, rfl, b0, b1, hR6, hO6⟩)
        | (go_at_call 37; refine (pickU HR2.out 32 (by omega) (by omega) (by omega)).mono ?_; rintro e w5 ⟨v5, rfl, a0, a1, hR5, hO5⟩))
    all_goals
      go_wp2
      go_ret2
      exact HF.out _ _ _ hO5 hO6 hR6
set_option maxHeartbeats 1000000 in
theorem drawIsolatedBy_any (A : Option Addr) (n c : Nat) (w : World) (h : Byt w A n c) :
    Calls Try.prog 24 #[.slice A n c] w fun e w' => ∃ A1 c1 D l, e = .returned (.tuple #[.slice A1 (List.length D) c1, .int .i64 l]) ∧ Mat w' A1 c1 D ∧ Ext w w' := by
  go_enter Try.func24, Try.ntmps24
  go_wp2_with fail
  refine (open_any A n c w h).mono ?_
  rintro e w1 ⟨g, rfl, hx1, hg, hR⟩
  have HR := Lib.hid hR
  have HX := Lib.hid hx1
  clear hR hx1
  go_wp2_with fail
  refine (l20Split_any HR.out (Nat.le_refl _) (by omega)).mono ?_
  rintro e w2 ⟨A', c', V, D, l, rfl, hO, hR2, hX2⟩
  have HM := Lib.hid hO.mat
  have HX3 := Lib.hid (hX2.ext HX.out hg)
  clear hO hR2 hX2
  go_wp2
  go_ret2
  exact ⟨_, _, D, l, rfl, HM.out, HX3.out⟩
set_option maxHeartbeats 1000000 in
theorem drawFitTogether_any (A : Option Addr) (n c : Nat) (w : World) (h : Byt w A n c) :
    Calls Try.prog 9 #[.slice A n c] w fun e w' => ∃ A1 c1 D a b, e = .returned (.tuple #[.slice A1 (List.length D) c1, .int .i64 a, .int .i64 b]) ∧ Mat w' A1 c1 D ∧ Ext w w' := by
  go_enter Try.func9, Try.ntmps9
  go_wp2_with fail
  refine (open_any A n c w h).mono ?_
  rintro e w1 ⟨g, rfl, hx1, hg, hR⟩
  have hlt := hR.lt
  have HR := Lib.hid hR
  have HX := Lib.hid hx1
  clear hR hx1
  go_wp2_with fail
  refine (l20Split_any HR.out (Nat.le_refl _) (by omega)).mono ?_
  rintro e w2 ⟨A', c', V, D, l, rfl, hO, hR2, hX2⟩
  have HO := Lib.hid hO
  have HR2 := Lib.hid hR2
  have HX2 := Lib.hid hX2
  clear hO hR2 hX2
  go_wp2_with fail
  refine (pickU HR2.out 31 (by omega) (by omega) (by omega)).mono ?_
  rintro e w3 ⟨v, rfl, v0, v1, hR3, hO3⟩
  have HM := Lib.hid (HO.out.rd hO3 hlt).mat
  have HX3 := Lib.hid ((HX2.out.rd hO3).ext HX.out hg)
  clear hR3 hO3 HO HR2 HX2
  go_wp2
  (try simp only [Exit.inBlock, Exit.then])
  refine bodyPost_ret (results_tmp3 rfl _ _ _) rfl ?_
  exact ⟨_, _, D, l, _, rfl, HM.out, HX3.out⟩
end Go.Proofs.Ytjaigidlpfdfiaa
