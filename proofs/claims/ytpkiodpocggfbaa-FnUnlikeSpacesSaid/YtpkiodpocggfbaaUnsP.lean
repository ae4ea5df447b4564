/- What is proved: plain laws of the least difference of two spaces: which rows a choice has; a choice among another's rows differs no more. No condition. -/
import Derived.Test.YtpkiodpocggfbaaUns
namespace Go.Proofs.Ytpkiodpocggfbaa
open Go.RowKit
/-- a row of the pairs is there exactly by its bit -/
theorem prs_mem (n m : Nat) (ch : Int) (r : List Int) : r ∈ prs n m ch ↔ ∃ i : Nat, i < n * m ∧ bitI ch i = 1 ∧ r = [((i / m : Nat) : Int), ((i % m : Nat) : Int)] := by
  have := itR_inv (f := fun i R => if bitI ch i = 1 then R ++ [[((i / m : Nat) : Int), ((i % m : Nat) : Int)]] else R) (fun j (R : List (List Int)) => r ∈ R ↔ ∃ i : Nat, i < j ∧ bitI ch i = 1 ∧ r = [((i / m : Nat) : Int), ((i % m : Nat) : Int)]) (n * m) 0 [] ⟨fun h => absurd h (by simp), fun ⟨i, hi, _⟩ => absurd hi (by omega)⟩ (fun j R _ _ h => by
    show r ∈ (if bitI ch j = 1 then R ++ [[((j / m : Nat) : Int), ((j % m : Nat) : Int)]] else R) ↔ _
    by_cases q : bitI ch j = 1
    · rw [if_pos q]
      refine ⟨fun hr => ?_, fun ⟨i, hi, hb, e⟩ => ?_⟩
      · rcases List.mem_append.1 hr with hr | hr
        · obtain ⟨i, hi, e⟩ := h.1 hr
          exact ⟨i, by omega, e⟩
        · exact ⟨j, by omega, q, List.mem_singleton.1 hr⟩
      · by_cases k : i = j
        · subst k; exact List.mem_append.2 (.inr (List.mem_singleton.2 e))
        · exact List.mem_append.2 (.inl (h.2 ⟨i, by omega, hb, e⟩))
    · rw [if_neg q]
      refine ⟨fun hr => ?_, fun ⟨i, hi, hb, e⟩ => ?_⟩
      · obtain ⟨i, hi, e⟩ := h.1 hr
        exact ⟨i, by omega, e⟩
      · by_cases k : i = j
        · subst k; exact absurd hb q
        · exact h.2 ⟨i, by omega, hb, e⟩)
  simpa [prs, prsG] using this
theorem row_in {R : List (List Int)} {k : Nat} (hk : k < R.length) : row R k ∈ R := by
  rw [row_of hk]; exact List.getElem_mem _
theorem in_row {R : List (List Int)} {r : List Int} (h : r ∈ R) : ∃ k, k < R.length ∧ row R k = r := by
  obtain ⟨k, hk, e⟩ := List.mem_iff_getElem.1 h
  exact ⟨k, hk, by rw [row_of hk]; exact e⟩
/-- pairs among other pairs differ no more -/
theorem unlI_mono {D E P P' : List (List Int)} (h : ∀ r ∈ P, r ∈ P') : unlI D E P ≤ unlI D E P' := by
  obtain ⟨_, _, a3⟩ := unlI_most D E P
  obtain ⟨b1, b2, _⟩ := unlI_most D E P'
  rcases a3 with a3 | ⟨k, hk, j, hj, e⟩
  · omega
  · obtain ⟨k', hk', ek⟩ := in_row (h _ (row_in hk))
    obtain ⟨j', hj', ej⟩ := in_row (h _ (row_in hj))
    refine b2 _ ⟨k', hk', j', hj', ?_⟩
    have ed : dif D E P' k' j' = dif D E P k j := by
      unfold dif at2; rw [ek, ej]
    rw [ed]; exact e
/-- the same rows in another order differ as much -/
theorem unlI_perm {D E P P' : List (List Int)} (h : ∀ r, r ∈ P ↔ r ∈ P') : unlI D E P = unlI D E P' :=
  Int.le_antisymm (unlI_mono fun r => (h r).1) (unlI_mono fun r => (h r).2)
end Go.Proofs.Ytpkiodpocggfbaa
