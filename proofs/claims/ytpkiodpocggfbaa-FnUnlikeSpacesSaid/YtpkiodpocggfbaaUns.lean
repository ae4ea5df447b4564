/- What is proved: the least difference of two spaces over all choices of pairs: plain words and laws. No condition. -/
import Derived.Test.YtpkiodpocggfbaaUnlP
namespace Go.Proofs.Ytpkiodpocggfbaa
open Go.RowKit
/-- the pairs of a choice, from a beginning on -/
def prsG (m : Nat) (ch : Int) : Nat → Nat → List (List Int) → List (List Int) := itR (fun i R => if bitI ch i = 1 then R ++ [[((i / m : Nat) : Int), ((i % m : Nat) : Int)]] else R)
def prs (n m : Nat) (ch : Int) : List (List Int) := prsG m ch (n * m) 0 []
theorem prsG_yes {m g i : Nat} {ch : Int} {R : List (List Int)} (h : bitI ch i = 1) : prsG m ch (g + 1) i R = prsG m ch g (i + 1) (R ++ [[((i / m : Nat) : Int), ((i % m : Nat) : Int)]]) := by
  show prsG m ch g (i + 1) (if bitI ch i = 1 then _ else R) = _; rw [if_pos h]
theorem prsG_no {m g i : Nat} {ch : Int} {R : List (List Int)} (h : ¬ bitI ch i = 1) : prsG m ch (g + 1) i R = prsG m ch g (i + 1) R := by
  show prsG m ch g (i + 1) (if bitI ch i = 1 then _ else R) = _; rw [if_neg h]
/-- what each row of the pairs is -/
theorem prs_rows (n m : Nat) (ch : Int) : (prs n m ch).length ≤ n * m ∧ ∀ r ∈ prs n m ch, ∃ i : Nat, i < n * m ∧ bitI ch i = 1 ∧ r = [((i / m : Nat) : Int), ((i % m : Nat) : Int)] := by
  have := itR_inv (f := fun i R => if bitI ch i = 1 then R ++ [[((i / m : Nat) : Int), ((i % m : Nat) : Int)]] else R) (fun j (R : List (List Int)) => R.length ≤ j ∧ ∀ r ∈ R, ∃ i : Nat, i < j ∧ bitI ch i = 1 ∧ r = [((i / m : Nat) : Int), ((i % m : Nat) : Int)]) (n * m) 0 [] ⟨by simp, fun r hr => by cases hr⟩ (fun j R _ _ h => by
    show (if bitI ch j = 1 then R ++ [[((j / m : Nat) : Int), ((j % m : Nat) : Int)]] else R).length ≤ j + 1 ∧ ∀ r ∈ (if bitI ch j = 1 then R ++ [[((j / m : Nat) : Int), ((j % m : Nat) : Int)]] else R), _
    by_cases q : bitI ch j = 1
    · rw [if_pos q]
      refine ⟨by simp; exact h.1, fun r hr => ?_⟩
      rcases List.mem_append.1 hr with hr | hr
      · obtain ⟨i, hi, e⟩ := h.2 r hr
        exact ⟨i, by omega, e⟩
      · exact ⟨j, by omega, q, List.mem_singleton.1 hr⟩
    · rw [if_neg q]
      refine ⟨by have := h.1; omega, fun r hr => ?_⟩
      obtain ⟨i, hi, e⟩ := h.2 r hr
      exact ⟨i, by omega, e⟩)
  simpa [prs, prsG] using this
theorem prs_pair {n m : Nat} {ch : Int} (hn : n ≤ 3) (hm : m ≤ 3) : PairP (prs n m ch) := by
  obtain ⟨h1, h2⟩ := prs_rows n m ch
  have h9 : n * m ≤ 9 := Nat.mul_le_mul hn hm
  refine ⟨by omega, fun k hk => ?_⟩
  obtain ⟨i, hi, _, e⟩ := h2 (row (prs n m ch) k) (by rw [row_of hk]; exact List.getElem_mem _)
  have a1 : i / m ≤ i := Nat.div_le_self _ _
  have a2 : i % m ≤ i := Nat.mod_le _ _
  obtain ⟨q, hq⟩ : ∃ q, i / m = q := ⟨_, rfl⟩
  obtain ⟨r, hr⟩ : ∃ q, i % m = q := ⟨_, rfl⟩
  rw [hq, hr] at e
  rw [hq] at a1
  rw [hr] at a2
  unfold at2
  rw [e]
  exact ⟨rfl, ⟨by show (0 : Int) ≤ (q : Int); omega, by show (q : Int) ≤ 100; omega⟩, ⟨by show (0 : Int) ≤ (r : Int); omega, by show (r : Int) ≤ 100; omega⟩⟩
noncomputable def chV (D E : List (List Int)) (ch : Nat) : Int := unlV D E (prs D.length E.length ch)
theorem unlV_cases (D E P : List (List Int)) : (unlV D E P = -1 ∧ ¬ (spB D = true ∧ spB E = true ∧ okU D E P)) ∨ (unlV D E P = unlI D E P ∧ (spB D = true ∧ spB E = true ∧ okU D E P)) := by
  by_cases h : spB D = true ∧ spB E = true ∧ okU D E P
  · exact .inr ⟨unlV_yes h, h⟩
  · exact .inl ⟨unlV_no h, h⟩
theorem chV_bd (D E : List (List Int)) (ch : Nat) : -1 ≤ chV D E ch ∧ chV D E ch ≤ 60 := by
  unfold chV
  rcases unlV_cases D E (prs D.length E.length ch) with ⟨e, _⟩ | ⟨e, hs, ht, ho⟩
  · omega
  · have := unl_bd hs ht ho.1
    omega
noncomputable def unsI (D E : List (List Int)) : Int := itR (fun ch s => if 0 ≤ chV D E ch then min s (chV D E ch) else s) (2 ^ (D.length * E.length)) 0 60
noncomputable def unsS (D E : List (List Int)) : Int := itR (fun ch s => if 0 ≤ chV D E ch ∧ (s < 0 ∨ chV D E ch < s) then chV D E ch else s) (2 ^ (D.length * E.length)) 0 (-1)
def ChS (D E : List (List Int)) (x : Int) : Prop := ∃ ch, ch < 2 ^ (D.length * E.length) ∧ (0 ≤ chV D E ch ∧ x = chV D E ch)
theorem unsI_least (D E : List (List Int)) : LeastOr (unsI D E) 60 (ChS D E) :=
  itR_least (S := fun ch x => 0 ≤ chV D E ch ∧ x = chV D E ch) _ _ fun ch _ s => by
    show LeastOr (if 0 ≤ chV D E ch then min s (chV D E ch) else s) s _
    by_cases q : 0 ≤ chV D E ch
    · rw [if_pos q]
      refine ⟨Int.min_le_left _ _, fun x hx => by rw [hx.2]; exact Int.min_le_right _ _, ?_⟩
      rcases Int.le_total s (chV D E ch) with k | k
      · exact .inl (Int.min_eq_left k)
      · exact .inr ⟨q, Int.min_eq_right k⟩
    · rw [if_neg q]
      exact ⟨Int.le_refl _, fun x hx => absurd hx.1 q, .inl rfl⟩
theorem unsS_least (D E : List (List Int)) : LeastNo (unsS D E) (-1) (ChS D E) :=
  itR_leastNo (S := fun ch x => 0 ≤ chV D E ch ∧ x = chV D E ch) _ _ (fun ch _ x hx => by rw [hx.2]; exact hx.1) (fun ch _ s _ => by
    show LeastNo (if 0 ≤ chV D E ch ∧ (s < 0 ∨ chV D E ch < s) then chV D E ch else s) s _
    by_cases q : 0 ≤ chV D E ch
    · refine ⟨fun ht => .inr ?_, fun ht => ?_⟩
      · rw [if_pos ⟨q, .inl ht⟩]
        exact ⟨⟨q, rfl⟩, fun x hx => by rw [hx.2]; exact Int.le_refl _⟩
      · by_cases k : chV D E ch < s
        · rw [if_pos ⟨q, .inr k⟩]
          exact ⟨by omega, fun x hx => by rw [hx.2]; exact Int.le_refl _, .inr ⟨q, rfl⟩⟩
        · rw [if_neg (fun h => by rcases h.2 with h | h; omega; exact k h)]
          exact ⟨Int.le_refl _, fun x hx => by rw [hx.2]; omega, .inl rfl⟩
    · rw [if_neg (fun h => q h.1)]
      exact ⟨fun _ => .inl ⟨rfl, fun x hx => q hx.1⟩, fun _ => ⟨Int.le_refl _, fun x hx => absurd hx.1 q, .inl rfl⟩⟩) (by decide)
/-- where some choice serves, both are the same -/
theorem uns_same {D E : List (List Int)} (h : ∃ x, ChS D E x) : unsS D E = unsI D E := by
  obtain ⟨x, hx⟩ := h
  obtain ⟨a1, a2, a3⟩ := unsI_least D E
  have hb : ∀ y, ChS D E y → y ≤ 60 := fun y hy => by obtain ⟨ch, _, _, e⟩ := hy; rw [e]; exact (chV_bd D E ch).2
  rcases (unsS_least D E).1 (by decide) with ⟨_, b⟩ | ⟨b1, b2⟩
  · exact absurd hx (b x)
  · have h1 := a2 _ b1
    have h2 := hb _ b1
    rcases a3 with a3 | a3
    · have := b2 x hx; have := a2 x hx; have := hb x hx; omega
    · have := b2 _ a3; omega
end Go.Proofs.Ytpkiodpocggfbaa
