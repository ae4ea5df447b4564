/- What is proved: plain laws of the least difference of two spaces: a choice for each set of pairs; the spaces exchanged. No condition. -/
import Derived.Test.YtpkiodpocggfbaaUnsP
import Derived.Test.YtpkiodpocggfbaaUnsI
import Derived.Test.YtpkiodpocggfbaaLot
namespace Go.Proofs.Ytpkiodpocggfbaa
open Go.RowKit
theorem cell_bd {n m a b : Nat} (ha : a < n) (hb : b < m) : a * m + b < n * m := by
  have : (a + 1) * m ≤ n * m := Nat.mul_le_mul_right m ha
  rw [Nat.succ_mul] at this
  omega
theorem cell_div {m a b : Nat} (hb : b < m) : (a * m + b) / m = a ∧ (a * m + b) % m = b := by
  have hm : 0 < m := by omega
  rw [Nat.add_comm, Nat.add_mul_div_right _ _ hm, Nat.div_eq_of_lt hb, Nat.add_mul_mod_self_right, Nat.mod_eq_of_lt hb]
  exact ⟨by omega, rfl⟩
/-- the rows of a choice, cell by cell -/
theorem prs_cell (n m : Nat) (ch : Int) (r : List Int) : r ∈ prs n m ch ↔ ∃ a b : Nat, a < n ∧ b < m ∧ bitI ch (a * m + b) = 1 ∧ r = [(a : Int), (b : Int)] := by
  rw [prs_mem]
  constructor
  · rintro ⟨i, hi, hb, e⟩
    have hm : 0 < m := by
      rcases Nat.eq_zero_or_pos m with z | z
      · subst z; omega
      · exact z
    refine ⟨i / m, i % m, Nat.div_lt_of_lt_mul (by rw [Nat.mul_comm]; exact hi), Nat.mod_lt _ hm, ?_, e⟩
    rw [Nat.mul_comm, Nat.div_add_mod]; exact hb
  · rintro ⟨a, b, ha, hb, hc, e⟩
    obtain ⟨d1, d2⟩ := cell_div (a := a) hb
    exact ⟨a * m + b, cell_bd ha hb, hc, by rw [d1, d2]; exact e⟩
/-- for each set of pairs there is a choice -/
theorem prs_any (n m : Nat) (p : Nat → Nat → Bool) : ∃ ch : Nat, ch < 2 ^ (n * m) ∧ ∀ r, r ∈ prs n m ch ↔ ∃ a b : Nat, a < n ∧ b < m ∧ p a b = true ∧ r = [(a : Int), (b : Int)] := by
  obtain ⟨l0, l1⟩ := lotOf_bd (fun i => p (i / m) (i % m)) (n * m)
  have e2 : ((2 ^ (n * m) : Nat) : Int) = 2 ^ (n * m) := by simp
  refine ⟨(lotOf (fun i => p (i / m) (i % m)) (n * m)).toNat, by omega, fun r => ?_⟩
  rw [prs_cell, Int.toNat_of_nonneg l0]
  constructor
  · rintro ⟨a, b, ha, hb, hc, e⟩
    obtain ⟨d1, d2⟩ := cell_div (a := a) hb
    rw [lotOf_bit _ _ _ (cell_bd ha hb)] at hc
    refine ⟨a, b, ha, hb, ?_, e⟩
    by_cases q : p ((a * m + b) / m) ((a * m + b) % m) = true
    · rw [d1, d2] at q; exact q
    · rw [if_neg q] at hc; omega
  · rintro ⟨a, b, ha, hb, hp, e⟩
    obtain ⟨d1, d2⟩ := cell_div (a := a) hb
    refine ⟨a, b, ha, hb, ?_, e⟩
    rw [lotOf_bit _ _ _ (cell_bd ha hb), if_pos (by rw [d1, d2]; exact hp)]
/-- a row of pairs that meets each point has the full mask -/
theorem msk_full {P : List (List Int)} {c n : Nat} (hn : n ≤ 6) (hP : ∀ k, k < P.length → 0 ≤ at2 P k c ∧ at2 P k c < n) (h : ∀ x, x < n → ∃ k, k < P.length ∧ at2 P k c = ((x : Nat) : Int)) : mskI P c = 2 ^ n - 1 := by
  have hp := pow6 hn
  have key := itR_inv (f := fun k s => bits .or .i64 s (2 ^ (at2 P k c).toNat)) (fun j (s : Int) => (0 ≤ s ∧ s < 2 ^ n) ∧ ∀ k, k < j → bitI s (at2 P k c).toNat = 1) P.length 0 0 ⟨by omega, fun k hk => absurd hk (by omega)⟩ (fun j s _ hj hs => by
    obtain ⟨⟨s0, s1⟩, s2⟩ := hs
    obtain ⟨p0, p1⟩ := hP j (by omega)
    obtain ⟨o1, _⟩ := or_row s0 s1 hn (a := (at2 P j c).toNat) (by omega)
    refine ⟨o1, fun k hk => ?_⟩
    have hk2 : (at2 P k c).toNat < n := by
      have := hP k (by omega)
      omega
    have h3 := or_bit ⟨s.toNat, by omega⟩ ⟨(at2 P j c).toNat, by omega⟩ ⟨(at2 P k c).toNat, by omega⟩
    simp only [Int.toNat_of_nonneg s0] at h3
    by_cases q : (at2 P k c).toNat = (at2 P j c).toNat
    · rw [if_pos q] at h3; exact of_decide_eq_true h3
    · rw [if_neg q] at h3
      have hkj : k < j := by
        rcases Nat.lt_or_ge k j with z | z
        · exact z
        · exact absurd (show (at2 P k c).toNat = (at2 P j c).toNat by rw [show k = j by omega]) q
      rw [decide_eq_true (s2 k hkj)] at h3
      exact of_decide_eq_true h3)
  obtain ⟨⟨k0, k1⟩, k2⟩ := key
  have hf := row_full (s := mskI P c) (n := n) k0 k1 hn
  have : mskI P c = 2 ^ n - 1 := of_decide_eq_true (by
    rw [← hf, allR_all]
    intro j hj
    obtain ⟨k, hk, e⟩ := h j (by omega)
    have := k2 k (by omega)
    rw [e] at this
    simp only [Int.toNat_natCast] at this
    exact decide_eq_true this)
  exact this
/-- whether pairs serve is a matter of their set -/
theorem okU_set {D E P P' : List (List Int)} (hn : D.length ≤ 6) (hm : E.length ≤ 6) (h : ∀ r, r ∈ P ↔ r ∈ P') (ho : okU D E P) : okU D E P' := by
  obtain ⟨h1, h2, h3⟩ := ho
  have hk1 : okP D E P' := fun k hk => by
    obtain ⟨k', hk', e⟩ := in_row ((h _).2 (row_in hk))
    have := h1 k' hk'
    unfold at2 at this ⊢
    rw [e] at this
    exact this
  have hc : ∀ c n, n ≤ 6 → (∀ k, k < P.length → 0 ≤ at2 P k c ∧ at2 P k c < ((n : Nat) : Int)) → (∀ k, k < P'.length → 0 ≤ at2 P' k c ∧ at2 P' k c < ((n : Nat) : Int)) → mskI P c = 2 ^ n - 1 → mskI P' c = 2 ^ n - 1 := fun c n h6 a1 a2 a3 =>
    msk_full h6 a2 fun x hx => by
      obtain ⟨k, hk, e⟩ := cov h6 a1 a3 hx
      obtain ⟨k', hk', e'⟩ := in_row ((h _).1 (row_in hk))
      exact ⟨k', hk', by unfold at2 at e ⊢; rw [e']; exact e⟩
  exact ⟨hk1, hc 0 _ hn (fun k hk => (h1 k hk).2.1) (fun k hk => (hk1 k hk).2.1) h2, hc 1 _ hm (fun k hk => (h1 k hk).2.2) (fun k hk => (hk1 k hk).2.2) h3⟩
/-- a choice with the spaces exchanged -/
theorem chS_ex {D E : List (List Int)} (hn : D.length ≤ 6) (hm : E.length ≤ 6) {x : Int} (h : ChS D E x) : ChS E D x := by
  obtain ⟨ch, hch, h0, e⟩ := h
  rcases unlV_cases D E (prs D.length E.length ch) with ⟨q, _⟩ | ⟨q, hs, ht, ho⟩
  · unfold chV at h0; omega
  · obtain ⟨ch', hl, hr⟩ := prs_any E.length D.length (fun b a => decide (bitI (ch : Int) (a * E.length + b) = 1))
    have hset : ∀ r, r ∈ swP (prs D.length E.length ch) ↔ r ∈ prs E.length D.length ch' := fun r => by
      rw [hr]
      unfold swP
      rw [List.mem_map]
      constructor
      · rintro ⟨q, hq, rfl⟩
        obtain ⟨a, b, ha, hb, hc, rfl⟩ := (prs_cell _ _ _ _).1 hq
        exact ⟨b, a, hb, ha, decide_eq_true hc, rfl⟩
      · rintro ⟨b, a, hb, ha, hc, rfl⟩
        exact ⟨[(a : Int), (b : Int)], (prs_cell _ _ _ _).2 ⟨a, b, ha, hb, of_decide_eq_true hc, rfl⟩, rfl⟩
    have ok := okU_set hm hn hset (swP_ok ho)
    have ev : chV E D ch' = chV D E ch := by
      unfold chV
      rw [q, unlV_yes ⟨ht, hs, ok⟩, ← unlI_perm hset, swP_unl]
    exact ⟨ch', hl, by rw [ev]; exact h0, by rw [ev]; exact e⟩
/-- the least difference with the spaces exchanged -/
theorem unsI_ex {D E : List (List Int)} (hn : D.length ≤ 6) (hm : E.length ≤ 6) : unsI E D = unsI D E := by
  obtain ⟨a1, a2, a3⟩ := unsI_least D E
  obtain ⟨b1, b2, b3⟩ := unsI_least E D
  have h1 : unsI D E ≤ unsI E D := by
    rcases b3 with b3 | b3
    · omega
    · exact a2 _ (chS_ex hm hn b3)
  have h2 : unsI E D ≤ unsI D E := by
    rcases a3 with a3 | a3
    · omega
    · exact b2 _ (chS_ex hn hm a3)
  omega
theorem unsV_ex (D E : List (List Int)) : unsV E D = unsV D E := by
  unfold unsV
  by_cases h : spB D = true ∧ spB E = true ∧ D.length ≤ 3 ∧ E.length ≤ 3
  · rw [if_pos h, if_pos ⟨h.2.1, h.1, h.2.2.2, h.2.2.1⟩]
    exact unsI_ex (by omega) (by omega)
  · rw [if_neg h, if_neg (fun k => h ⟨k.2.1, k.1, k.2.2.2, k.2.2.1⟩)]
end Go.Proofs.Ytpkiodpocggfbaa
