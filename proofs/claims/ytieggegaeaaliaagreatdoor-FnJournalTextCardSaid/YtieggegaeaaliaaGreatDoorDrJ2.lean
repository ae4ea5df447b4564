/- What is proved: DrawJournalText (if l20Deed draws a deed). Conditions: those of each contract. -/
import Derived.Test.YtieggegaeaaliaaGreatDoorDrJt
import Derived.Test.YtieggegaeaaliaaGreatDoorJr
namespace Go.Proofs.YtieggegaeaaliaaGreatDoor
open Go.RowKit
set_option maxRecDepth 100000 in
set_option maxHeartbeats 4000000 in
theorem drawJournalText_any (hDeed : DeedAny) (A : Option Addr) (n c : Nat) (w : World) (h : Byt w A n c) :
    Calls Tryz.prog 11 #[.slice A n c] w fun e w' => ∃ A' c' ds, e = .returned (.slice A' (List.length ds) c') ∧ DeedsM w' A' c' ds ∧ ds.length ≤ 6 ∧ (∀ j, j < ds.length → (dx ds j).length ≤ 8) ∧ Ext w w' := by
  have HO := Lib.hid (open_any A n c w h)
  clear h
  go_enter Tryz.func11, Tryz.ntmps11
  go_wp2_with fail
  refine HO.out.mono ?_
  rintro e w1 ⟨g, rfl, hx1, hg, hR⟩
  have hlt := hR.lt
  have HW := Lib.hid (l20Written_any hDeed hR (Nat.le_refl _) (by omega))
  have HX1 := Lib.hid hx1
  have HG := Lib.hid (And.intro hg hlt)
  clear hR hx1 hg HO hlt
  go_wp2_with fail
  refine HW.out.mono ?_
  rintro e w2 ⟨A2, c2, ds, V, rfl, hO2, -, hl5, h8, hR2, hX2⟩
  have hs2 := hX2.size
  have HOD := Lib.hid (oddU hR2 12 (by omega) (by omega) (by omega))
  have HO2 := Lib.hid hO2
  have HX2 := Lib.hid hX2
  have H8 := Lib.hid h8
  clear hR2 hO2 hX2 h8 HW
  go_wp2_with fail
  refine HOD.out.mono ?_
  rintro e w3 ⟨b, rfl, -, hO3⟩
  have hx3 : Ext w w3 := (HX2.out.rd hO3).ext HX1.out (by have := HG.out.1; omega)
  have hD3 := (HO2.out.keep (KeepE.of_g (b := w1.heap.size) hO3.toG HG.out.2)).low (show w.heap.size ≤ w1.heap.size from HX1.out.size)
  cases b with
  | true =>
    have HPU := Lib.hid (accDs_run (P := Tryz.prog) (T := 33) (E := 26) (ty := 33) rfl Tryz.underlying33 infoDeed (kind := 9) (xs := []) hD3 hx3 (Ext.refl _) (Ext.refl _) (A := none) (n := 0) (c := 0) ⟨none, 0, rfl, Nat.le_refl _, Nat.zero_le _, fun q => absurd q (by simp)⟩ (fun q hq => by simp [lb] at hq) (by omega))
    clear hD3 hx3 hO3 HO2 HX2
    go_wp2_with (at_builtin; go_loud (refine wpList_ex rfl _ _ rfl _ (.slice (some ⟨_, 0, none⟩) 1 1) rfl rfl HPU.out ?_; rintro v8 w8 hS8))
    obtain ⟨⟨V', hV'⟩, hx8⟩ := hS8
    obtain ⟨A9, c9, rfl, hD9⟩ := hV'.deeds
    have HF := Lib.hid (And.intro hD9 hx8)
    have hln : (ds ++ [((9 : Int), ([] : List Int))]).length = ds.length + 1 := by simp
    have HLN := Lib.hid hln
    clear hV' hD9 hx8 hln
    go_wp2_with fail
    go_ret
    refine ⟨A9, c9, ds ++ [(9, [])], rfl, HF.out.1, by rw [HLN.out]; omega, fun j hj => ?_, HF.out.2⟩
    rw [HLN.out] at hj
    by_cases q : j = ds.length
    · subst q; rw [dk_last.2]; simp
    · rw [(dk_app (by omega)).2]; exact H8.out j (by omega)
  | false =>
    obtain ⟨A9, c9, ev, hD9⟩ := hD3.deeds
    injection ev with ev1 ev2 ev3
    subst ev1 ev3
    have HF := Lib.hid (And.intro hD9 hx3)
    clear hD3 hx3 hO3 HO2 HX2 hD9 ev2
    go_wp2_with fail
    go_ret
    exact ⟨A2, c2, ds, rfl, HF.out.1, by omega, H8.out, HF.out.2⟩
end Go.Proofs.YtieggegaeaaliaaGreatDoor
