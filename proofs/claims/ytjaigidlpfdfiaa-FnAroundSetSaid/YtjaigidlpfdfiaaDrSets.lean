/- What is proved: l20Sets draws rows and two numbers; DrawNetOf, DrawAroundSet and DrawSetsApart return what they draw, to be read. Conditions: those of each contract. -/
import Derived.Test.YtjaigidlpfdfiaaDrSpc
import Derived.Test.YtjaigidlpfdfiaaSets
import Derived.Test.YtjaigidlpfdfiaaOpen
import Derived.Deep.RegionHeld3
namespace Go.Proofs.Ytjaigidlpfdfiaa
open Go.RowKit
set_option maxRecDepth 100000 in
set_option maxHeartbeats 4000000 in
theorem l20Sets_any {w : World} {B g : Nat} {u : Int} (hR : RdU w B g u) (hB : B ≤ w.heap.size) (hu : u ≤ 200000) :
    Calls Try.prog 41 #[.pointer (some ⟨g, 0, none⟩)] w fun e w' => ∃ A c V D l l2, e = .returned (.tuple #[.slice A (List.length D) c, .int .i64 l, .int .i64 l2]) ∧ ObjM w.heap.size w' A c D V ∧ RdU w' B g (u + 100) ∧ ExtG g w w' := by
  have hg := hR.lt
  have HR := Lib.hid hR
  clear hR
  go_enter Try.func41, Try.ntmps41
  go_wp2_with fail
  refine (l20Space_any HR.out hB (by omega) 6 12 (by omega) (by omega) (by omega) (by omega)).mono ?_
  rintro e w1 ⟨A, c, V, D, rfl, hO, hD, hR1, hX1⟩
  have HO := Lib.hid hO
  have HR1 := Lib.hid hR1
  have HX1 := Lib.hid hX1
  clear hO hR1 hX1 HR
  have fin : ∀ (l l2 : Int) (w5 w6 w7 w8 : World), Only (fun x => x = g) w1.drew w5 → Only (fun x => x = g) w5 w6 → Only (fun x => x = g) w6 w7 → Only (fun x => x = g) w7 w8 → RdU w8 B g (u + 60 + 1 + 1 + 1 + 1) → ∃ A' c' V' D' l' l2', (Ending.returned (.tuple #[.slice A D.length c, .int .i64 l, .int .i64 l2]) = .returned (.tuple #[.slice A' (List.length D') c', .int .i64 l', .int .i64 l2'])) ∧ ObjM w.heap.size w8 A' c' D' V' ∧ RdU w8 B g (u + 100) ∧ ExtG g w w8 := fun l l2 w5 w6 w7 w8 h5 h6 h7 h8 h9 =>
    ⟨A, c, V, D, l, l2, rfl, ((((HO.out.ext (Ext.drewN w1 1)).rd h5 (by omega)).rd h6 (by omega)).rd h7 (by omega)).rd h8 (by omega), h9.le (by omega), ((((HX1.out.on (Ext.drewN w1 1)).rd h5).rd h6).rd h7).rd h8⟩
  have HF := Lib.hid fin
  have HR2 := Lib.hid (show RdU w1.drew B g (u + 60) from HR1.out.ext (Ext.drewN w1 1) (by have := HX1.out.size; omega))
  obtain ⟨k, hk⟩ : ∃ k : Nat, D.length = k := ⟨_, rfl⟩
  rw [hk] at hD HF
  rw [hk]
  clear fin HO HX1 HR1 hk
  obtain ⟨P, hP⟩ : ∃ P : Int, (2 : Int) ^ k = P := ⟨_, rfl⟩
  obtain ⟨P1, P64⟩ : 1 ≤ P ∧ P ≤ 64 := by rw [← hP]; exact pow64 hD
  have f0 : (if (7 : Int) < (k : Nat) then (7 : Int) else (k : Nat)) = (k : Int) := if_neg (by omega)
  have f1 : ¬ (7 : Int) < (k : Nat) := by omega
  have f2 : (k : Int) ≤ 64 := by omega
  have w5 : wrap64 P = P := IntWalk.wrap64_in _ ⟨by omega, by omega⟩
  have w6 : wrap64 (P - 1) = P - 1 := IntWalk.wrap64_in _ ⟨by omega, by omega⟩
  have v5 : IntKind.i64.wrap P = P := IntWalk.i64_in _ ⟨by omega, by omega⟩
  have v6 : IntKind.i64.wrap (P - 1) = P - 1 := IntWalk.i64_in _ ⟨by omega, by omega⟩
  obtain ⟨M, hM⟩ : ∃ M : Int, (if P - 1 < 1 then (1 : Int) else P - 1) = M := ⟨_, rfl⟩
  have hM0 : ¬ M = 0 := by rw [← hM]; split <;> omega
  have hMb : (M == 0) = false := beq_eq_false_iff_ne.2 hM0
  go_wp2_with fail
  go_region_held3 (fun _ => True) (trivial)
    (first
      | (go_at_call 37; refine (pickU hR7 20 (by omega) (by omega) (by omega)).mono ?_; rintro e w8 ⟨v8, rfl, d0, d1, hR8, hO8⟩)
      | (go_at_call 37; refine (pickU hR6 256 (by omega) (by omega) (by omega)).mono ?_; rintro e w7 ⟨v7, rfl, c0, c1, hR7, hO7⟩)
      | (go_at_call 37; refine (pickU hR5 20 (by omega) (by omega) (by omega)).mono ?_; rintro e w6 ⟨v6, rfl, b0, b1, hR6, hO6⟩)
      | (go_at_call 37; refine (pickU HR2.out 256 (by omega) (by omega) (by omega)).mono ?_; rintro e w5 ⟨v5, rfl, a0, a1, hR5, hO5⟩))
  all_goals
    go_wp2
    (try simp only [Exit.inBlock, Exit.then])
    refine bodyPost_ret (results_tmp3 rfl _ _ _) rfl ?_
    exact HF.out _ _ _ _ _ _ hO5 hO6 hO7 hO8 hR8
set_option maxHeartbeats 1000000 in
theorem drawNetOf_any (A : Option Addr) (n c : Nat) (w : World) (h : Byt w A n c) :
    Calls Try.prog 28 #[.slice A n c] w fun e w' => ∃ A1 c1 D l, e = .returned (.tuple #[.slice A1 (List.length D) c1, .int .i64 l]) ∧ Mat w' A1 c1 D ∧ Ext w w' := by
  go_enter Try.func28, Try.ntmps28
  go_wp2_with fail
  refine (open_any A n c w h).mono ?_
  rintro e w1 ⟨g, rfl, hx1, hg, hR⟩
  have hlt := hR.lt
  have HR := Lib.hid hR
  have HX := Lib.hid hx1
  clear hR hx1
  go_wp2_with fail
  refine (l20Space_any HR.out (Nat.le_refl _) (by omega) 6 12 (by omega) (by omega) (by omega) (by omega)).mono ?_
  rintro e w2 ⟨A', c', V, D, rfl, hO, h6, hR2, hX2⟩
  have HO := Lib.hid hO
  have HR2 := Lib.hid hR2
  have HX2 := Lib.hid hX2
  clear hO hR2 hX2
  go_wp2_with fail
  refine (pickU HR2.out 12 (by omega) (by omega) (by omega)).mono ?_
  rintro e w3 ⟨v, rfl, v0, v1, hR3, hO3⟩
  have HR3 := Lib.hid hR3
  have HO3 := Lib.hid (HO.out.rd hO3 hlt)
  have HX3 := Lib.hid (HX2.out.rd hO3)
  clear hR3 hO3 HO HR2 HX2
  go_wp2_with fail
  refine (pickU HR3.out 20 (by omega) (by omega) (by omega)).mono ?_
  rintro e w4 ⟨p, rfl, p0, p1, hR4, hO4⟩
  have HM := Lib.hid (HO3.out.rd hO4 hlt).mat
  have HX4 := Lib.hid ((HX3.out.rd hO4).ext HX.out hg)
  clear hR4 hO4 HO3 HR3 HX3
  go_wp2
  go_ret2
  exact ⟨_, _, D, _, rfl, HM.out, HX4.out⟩
set_option maxHeartbeats 1000000 in
theorem drawSetsApart_any (A : Option Addr) (n c : Nat) (w : World) (h : Byt w A n c) :
    Calls Try.prog 17 #[.slice A n c] w fun e w' => ∃ A1 c1 D a b, e = .returned (.tuple #[.slice A1 (List.length D) c1, .int .i64 a, .int .i64 b]) ∧ Mat w' A1 c1 D ∧ Ext w w' := by
  go_enter Try.func17, Try.ntmps17
  go_wp2_with fail
  refine (open_any A n c w h).mono ?_
  rintro e w1 ⟨g, rfl, hx1, hg, hR⟩
  have HR := Lib.hid hR
  have HX := Lib.hid hx1
  clear hR hx1
  go_wp2_with fail
  refine (l20Sets_any HR.out (Nat.le_refl _) (by omega)).mono ?_
  rintro e w2 ⟨A', c', V, D, l, l2, rfl, hO, hR2, hX2⟩
  have HM := Lib.hid hO.mat
  have HX3 := Lib.hid (hX2.ext HX.out hg)
  clear hO hR2 hX2
  go_wp2
  (try simp only [Exit.inBlock, Exit.then])
  refine bodyPost_ret (results_tmp3 rfl _ _ _) rfl ?_
  exact ⟨_, _, D, l, l2, rfl, HM.out, HX3.out⟩
set_option maxHeartbeats 1000000 in
theorem drawAroundSet_any (A : Option Addr) (n c : Nat) (w : World) (h : Byt w A n c) :
    Calls Try.prog 14 #[.slice A n c] w fun e w' => ∃ A1 c1 D a b, e = .returned (.tuple #[.slice A1 (List.length D) c1, .int .i64 a, .int .i64 b]) ∧ Mat w' A1 c1 D ∧ Ext w w' := by
  go_enter Try.func14, Try.ntmps14
  go_wp2_with fail
  refine (open_any A n c w h).mono ?_
  rintro e w1 ⟨g, rfl, hx1, hg, hR⟩
  have hlt := hR.lt
  have HR := Lib.hid hR
  have HX := Lib.hid hx1
  clear hR hx1
  go_wp2_with fail
  refine (l20Sets_any HR.out (Nat.le_refl _) (by omega)).mono ?_
  rintro e w2 ⟨A', c', V, D, l, l2, rfl, hO, hR2, hX2⟩
  have HO := Lib.hid hO
  have HR2 := Lib.hid hR2
  have HX2 := Lib.hid hX2
  clear hO hR2 hX2
  go_wp2_with fail
  refine (pickU HR2.out 12 (by omega) (by omega) (by omega)).mono ?_
  rintro e w3 ⟨v, rfl, v0, v1, hR3, hO3⟩
  have HR3 := Lib.hid hR3
  have HO3 := Lib.hid (HO.out.rd hO3 hlt)
  have HX3 := Lib.hid (HX2.out.rd hO3)
  clear hR3 hO3 HO HR2 HX2
  go_wp2_with fail
  refine (pickU HR3.out 20 (by omega) (by omega) (by omega)).mono ?_
  rintro e w4 ⟨p, rfl, p0, p1, hR4, hO4⟩
  have HM := Lib.hid (HO3.out.rd hO4 hlt).mat
  have HX4 := Lib.hid ((HX3.out.rd hO4).ext HX.out hg)
  clear hR4 hO4 HO3 HR3 HX3
  go_wp2
  (try simp only [Exit.inBlock, Exit.then])
  refine bodyPost_ret (results_tmp3 rfl _ _ _) rfl ?_
  exact ⟨_, _, D, l, _, rfl, HM.out, HX4.out⟩
end Go.Proofs.Ytjaigidlpfdfiaa
