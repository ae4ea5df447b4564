/- What is proved: plain laws of a deed done to a desk: what was done can be undone, and what cannot be done changes nothing. Conditions: those of each theorem. -/
import Derived.Test.YtnalcgcdohlfiaaGreatDoorDoS
import Derived.Test.YtnalcgcdohlfiaaGreatDoorSmd
import Derived.Test.YtnalcgcdohlfiaaGreatDoorPe
namespace Go.Proofs.YtnalcgcdohlfiaaGreatDoor
theorem keep_law {D : List (List Int)} {L : List (List (List Int))} {kind : Int} {xs : List Int} (h : vB D L kind xs = false) (hd : deskB D L = true) : vD D L kind xs = D ∧ vL D L kind xs = L := by
  unfold vB at h
  rw [hd, Bool.true_and] at h
  unfold vD vL
  rw [if_pos hd, if_pos hd]
  unfold doD doL
  by_cases k : kind = 4 ∧ xs.length = 0
  · have h2 := h
    unfold doB at h2
    rw [if_pos k] at h2
    have hl : ¬ 0 < L.length := of_decide_eq_false h2
    have e : L = [] := List.eq_nil_of_length_eq_zero (by omega)
    rw [if_pos k, if_pos k, if_neg hl, e]
    exact ⟨rfl, rfl⟩
  · rw [if_neg k, if_neg k, h]
    exact ⟨by simp, by simp⟩
theorem pushL_short {L : List (List (List Int))} {D : List (List Int)} (h : L.length < 8) : pushL L D = L ++ [D] := by
  unfold pushL
  rw [if_neg (by rw [List.length_append, List.length_singleton]; omega)]
theorem undo_law {D : List (List Int)} {L : List (List (List Int))} {kind : Int} {xs : List Int} (h : vB D L kind xs = true) (k4 : kind ≠ 4) (hl : L.length < 8) :
    vB (vD D L kind xs) (vL D L kind xs) 4 [] = true ∧ vD (vD D L kind xs) (vL D L kind xs) 4 [] = D ∧ vL (vD D L kind xs) (vL D L kind xs) 4 [] = L := by
  unfold vB at h
  rw [Bool.and_eq_true] at h
  obtain ⟨hd, hb⟩ := h
  have hk : ¬ (kind = 4 ∧ xs.length = 0) := fun e => k4 e.1
  have e1 : vL D L kind xs = L ++ [D] := by
    unfold vL
    rw [if_pos hd]
    unfold doL
    rw [if_neg hk, if_pos hb, pushL_short hl]
  have e2 : vD D L kind xs = doD D L kind xs := by
    unfold vD
    rw [if_pos hd]
  have hd2 : deskB (vD D L kind xs) (vL D L kind xs) = true := by
    have := do_desk (kind := kind) (xs := xs) hd
    unfold vD vL
    rw [if_pos hd, if_pos hd]
    exact this
  obtain ⟨X, hX⟩ : ∃ X, vD D L kind xs = X := ⟨_, rfl⟩
  rw [e1, hX] at hd2 ⊢
  have h0 : 0 < (L ++ [D]).length := by rw [List.length_append, List.length_singleton]; omega
  have e4 : (L ++ [D]).length - 1 = L.length := by rw [List.length_append, List.length_singleton]; omega
  have hq : ((4 : Int) = 4 ∧ ([] : List Int).length = 0) := ⟨rfl, rfl⟩
  refine ⟨?_, ?_, ?_⟩
  · unfold vB doB
    rw [hd2, if_pos hq, decide_eq_true h0]
    rfl
  · unfold vD doD
    rw [if_pos hd2, if_pos hq, if_pos h0, e4, nth_app, if_pos rfl]
  · unfold vL doL
    rw [if_pos hd2, if_pos hq, e4, List.take_left]
theorem below_law {D : List (List Int)} {L : List (List (List Int))} {xs : List Int} (h : vB D L 3 xs = true) :
    spB (vD D L 3 xs) = true ∧ ∀ i, i < (vD D L 3 xs).length → ∀ k, k < (vD D L 3 xs).length → ∀ j, j < (vD D L 3 xs).length → at2 (vD D L 3 xs) i k ≤ max (at2 (vD D L 3 xs) i j) (at2 (vD D L 3 xs) j k) := by
  have h0 := h
  unfold vB at h
  rw [Bool.and_eq_true] at h
  obtain ⟨hd, hb⟩ := h
  have hk : ¬ ((3 : Int) = 4 ∧ xs.length = 0) := fun e => absurd e.1 (by omega)
  have hb2 := hb
  unfold doB at hb2
  rw [if_neg hk, Bool.and_eq_true] at hb2
  have hs := (deskB_parts hd).1
  have hf : farB D = true := spB_far hs
  have hm := hb2.1
  have e : vD D L 3 xs = blwV D := by
    unfold vD
    rw [if_pos hd]
    unfold doD
    rw [if_neg hk, if_pos hb]
    unfold madeB at hm
    unfold madeV
    simp at hm ⊢
    first | done | (intro q; simp_all)
  rw [e]
  exact ⟨blwV_sp hf, blwV_ultra hf⟩
theorem v_desk' {D : List (List Int)} {L : List (List (List Int))} {kind : Int} {xs : List Int} (h : vB D L kind xs = true) : deskB (vD D L kind xs) (vL D L kind xs) = true := by
  unfold vB at h
  rw [Bool.and_eq_true] at h
  unfold vD vL
  rw [if_pos h.1, if_pos h.1]
  exact do_desk h.1
end Go.Proofs.YtnalcgcdohlfiaaGreatDoor
