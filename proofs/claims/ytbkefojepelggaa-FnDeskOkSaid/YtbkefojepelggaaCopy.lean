/- What is proved: copies of rows (impl.copyRows, spec.l2Copy), in new memory; spec.l7Orders, spec.l7Same, spec.l7Less. Conditions: those of each contract. -/
import Derived.Test.YtbkefojepelggaaOrdS
namespace Go.Proofs.Ytbkefojepelggaa
open Go.RowKit
set_option maxRecDepth 100000 in
set_option maxHeartbeats 4000000 in
theorem copyRows_any (A : Option Addr) (c : Nat) (D : List (List Int)) (w : World) (h : Mat w A c D) (hz : D.length ≤ 1000) (hr : ∀ i, i < D.length → (row D i).length ≤ 1000) :
    Calls Try.prog 77 #[.slice A D.length c] w (FreshR w D) := by
  obtain ⟨h1, h2, -⟩ := id h
  obtain ⟨b, o, R, rc, -, -, hA, hrow, -, -, -, hints⟩ := h.parts
  unfold maxLen at h2
  have HROW := Lib.hid hrow
  have HIN := Lib.hid hints
  have HRL := Lib.hid hr
  have HTR := Lib.hid (fun i (hi : i < D.length) => take_row hi)
  have HTF := Lib.hid (show D.take D.length = D from List.take_of_length_le (Nat.le_refl _))
  have HBD := Lib.hid (fun i => show (D.take i).length ≤ 1000 by rw [List.length_take]; omega)
  clear h hrow hints hr
  obtain ⟨M, hM⟩ : ∃ M, D.length = M := ⟨_, rfl⟩
  rw [hM] at h1 hA HROW HIN HRL HTR HTF hz
  rw [hM]
  clear hM
  go_enter Try.func77, Try.ntmps77
  go_wp2
  go_loopg [9, 3] M (fun g s9 s3 wr => ∃ (i : Nat), i + g = M ∧ s9 = .int .i64 i ∧ Hid (AccR w wr s3 (D.take i)))
  case atStart => exact ⟨0, by omega, rfl, Lib.hid (by rw [List.take_zero]; exact AccR.empty (Ext.refl _))⟩
  case round =>
    obtain ⟨i, hi, rfl, HR⟩ := hrel
    by_cases hini : i < M
    · obtain ⟨gi1, rfl⟩ : ∃ g', gk = g' + 1 := ⟨gk - 1, by omega⟩
      have hini' : (i : Int) < (M : Nat) := by omega
      have hxi := HR.out.x
      obtain rfl := hA (by omega)
      have c1 := hxi.cell (HROW.out i hini)
      have HIi := Lib.hid (HIN.out i hini)
      have hrl := HRL.out i hini
      have HTRi := Lib.hid (HTR.out i hini)
      have hbd := HBD.out i
      obtain ⟨r, hr⟩ : ∃ r, row D i = r := ⟨_, rfl⟩
      obtain ⟨acc, hacc⟩ : ∃ r, D.take i = r := ⟨_, rfl⟩
      rw [hr] at c1 HIi hrl HTRi
      rw [hacc] at HTRi hbd HR
      clear hr hacc
      go_wp2_with (first
        | (at_builtin; (fail_if_success (have hq := hA1)); refine wpList_ex rfl _ _ rfl (.slice (some ⟨_, 0, none⟩) 0 0) _ rfl rfl (appI_run (w0 := wr) (ys := []) rfl Try.underlying31 infoI (accNew (Ext.alloc _ _) (heap_alloc_new _ _) (Nat.le_refl _)) (HIi.out.ext (hxi.alloc' _)) (by simp; omega)) ?_; rintro v1 W1 ⟨hA1, hB1, hS1⟩; rw [List.nil_append] at hA1; obtain ⟨Ar, cr, hv1, -⟩ := (Leaf.of_own hA1.2).1.ints; obtain ⟨K, hK⟩ : ∃ K, r.length = K := ⟨_, rfl⟩; rw [hK] at hv1; subst hv1; clear hK)
        | (at_builtin; refine wpList_ex rfl _ _ rfl _ (.slice (some ⟨_, 0, none⟩) 1 1) rfl rfl (accR_run (u := .slice Ar K cr) rfl Try.underlying23 infoR ⟨_, 0, none⟩ 1 rfl HR.out hA1 (Ext.alloc _ _) (cell_new0 _ _ _) (by omega)) ?_; rintro v3 W3 hR3))
      go_roundg gi1
      case measure => omega
      case rel => exact ⟨i + 1, by omega, by go_num, Lib.hid (by rw [HTRi.out]; exact hR3)⟩
    · have hini' : ¬ (i : Int) < (M : Nat) := by omega
      obtain rfl : gk = 0 := by omega
      obtain rfl : i = M := by omega
      rw [HTF.out] at HR
      have HFR := Lib.hid HR.out
      clear HR
      go_wp2
      go_ret
      exact ⟨_, rfl, HFR.out⟩
set_option maxRecDepth 100000 in
set_option maxHeartbeats 4000000 in
theorem l2Copy_any (A : Option Addr) (c : Nat) (D : List (List Int)) (w : World) (h : Mat w A c D) (hz : D.length ≤ 1000) (hr : ∀ i, i < D.length → (row D i).length ≤ 1000) :
    Calls Try.prog 70 #[.slice A D.length c] w (FreshR w D) := by
  obtain ⟨h1, h2, -⟩ := id h
  obtain ⟨b, o, R, rc, -, -, hA, hrow, -, -, -, hints⟩ := h.parts
  unfold maxLen at h2
  have HROW := Lib.hid hrow
  have HIN := Lib.hid hints
  have HRL := Lib.hid hr
  have HTR := Lib.hid (fun i (hi : i < D.length) => take_row hi)
  have HTF := Lib.hid (show D.take D.length = D from List.take_of_length_le (Nat.le_refl _))
  have HBD := Lib.hid (fun i => show (D.take i).length ≤ 1000 by rw [List.length_take]; omega)
  clear h hrow hints hr
  obtain ⟨M, hM⟩ : ∃ M, D.length = M := ⟨_, rfl⟩
  rw [hM] at h1 hA HROW HIN HRL HTR HTF hz
  rw [hM]
  clear hM
  go_enter Try.func70, Try.ntmps70
  go_wp2
  go_loopg [4, 3] M (fun g s4 s3 wr => ∃ (i : Nat), i + g = M ∧ s4 = .int .i64 i ∧ Hid (AccR w wr s3 (D.take i)))
  case atStart => exact ⟨0, by omega, rfl, Lib.hid (by rw [List.take_zero]; exact AccR.empty (Ext.refl _))⟩
  case round =>
    obtain ⟨i, hi, rfl, HR⟩ := hrel
    by_cases hini : i < M
    · obtain ⟨gi1, rfl⟩ : ∃ g', gk = g' + 1 := ⟨gk - 1, by omega⟩
      have hini' : (i : Int) < (M : Nat) := by omega
      have hxi := HR.out.x
      obtain rfl := hA (by omega)
      have c1 := hxi.cell (HROW.out i hini)
      have c2 := (hxi.alloc' (.cells #[] 3)).cell (HROW.out i hini)
      have HIi := Lib.hid (HIN.out i hini)
      have hrl := HRL.out i hini
      have HTRi := Lib.hid (HTR.out i hini)
      have hbd := HBD.out i
      obtain ⟨r, hr⟩ : ∃ r, row D i = r := ⟨_, rfl⟩
      obtain ⟨acc, hacc⟩ : ∃ r, D.take i = r := ⟨_, rfl⟩
      rw [hr] at c1 c2 HIi hrl HTRi
      rw [hacc] at HTRi hbd HR
      clear hr hacc
      go_wp2_with (first
        | (at_builtin; (fail_if_success (have hq := hA1)); refine wpList_ex rfl _ _ rfl (.slice (some ⟨_, 0, none⟩) 0 0) _ rfl rfl (appI_run (w0 := wr) (ys := []) rfl Try.underlying31 infoI (accNew (Ext.alloc _ _) (heap_alloc_new _ _) (Nat.le_refl _)) (HIi.out.ext (hxi.alloc' _)) (by simp; omega)) ?_; rintro v1 W1 ⟨hA1, hB1, hS1⟩; rw [List.nil_append] at hA1; obtain ⟨Ar, cr, hv1, -⟩ := (Leaf.of_own hA1.2).1.ints; obtain ⟨K, hK⟩ : ∃ K, r.length = K := ⟨_, rfl⟩; rw [hK] at hv1; subst hv1; clear hK)
        | (at_builtin; refine wpList_ex rfl _ _ rfl _ (.slice (some ⟨_, 0, none⟩) 1 1) rfl rfl (accR_run (u := .slice Ar K cr) rfl Try.underlying23 infoR ⟨_, 0, none⟩ 1 rfl HR.out hA1 (Ext.alloc _ _) (cell_new0 _ _ _) (by omega)) ?_; rintro v3 W3 hR3))
      go_roundg gi1
      case measure => omega
      case rel => exact ⟨i + 1, by omega, by go_num, Lib.hid (by rw [HTRi.out]; exact hR3)⟩
    · have hini' : ¬ (i : Int) < (M : Nat) := by omega
      obtain rfl : gk = 0 := by omega
      obtain rfl : i = M := by omega
      rw [HTF.out] at HR
      have HFR := Lib.hid HR.out
      clear HR
      go_wp2
      go_ret
      exact ⟨_, rfl, HFR.out⟩
end Go.Proofs.Ytbkefojepelggaa
