/- What is proved: plain laws of the least difference of two spaces: it is at most the greater width. No condition. -/
import Derived.Test.YtpkiodpocggfbaaUnsQ
import Derived.Test.YtpkiodpocggfbaaUnsS
namespace Go.Proofs.Ytpkiodpocggfbaa
open Go.RowKit
theorem at2_wid {D : List (List Int)} (hs : spB D = true) {i j : Nat} (hi : i < D.length) (hj : j < D.length) : 0 ≤ at2 D i j ∧ at2 D i j ≤ widI D := by
  obtain ⟨⟨n1, n6⟩, hsq, hc⟩ := farB_parts (spB_far hs)
  have h1 := (widI_most D).2.1 _ ⟨i, hi, rfl⟩
  have h2 := maxI_ge (xs := row D i) (j := j) (by rw [hsq i hi]; exact hj)
  have h3 := (hc i hi j hj).1
  have e : at2 D i j = ix (row D i) j := rfl
  omega
/-- pairs differ at most by the greater width -/
theorem unlI_wid {D E P : List (List Int)} (hs : spB D = true) (ht : spB E = true) (h : okP D E P) : unlI D E P ≤ max (widI D) (widI E) := by
  obtain ⟨c1, c2, c3⟩ := unlI_most D E P
  have w1 := (widI_most D).1
  rcases c3 with c3 | ⟨k, hk, j, hj, hx⟩
  · omega
  · obtain ⟨-, ⟨a0, a1⟩, ⟨b0, b1⟩⟩ := h k hk
    obtain ⟨-, ⟨d0, d1⟩, ⟨e0, e1⟩⟩ := h j hj
    have h1 := at2_wid hs (i := (at2 P k 0).toNat) (j := (at2 P j 0).toNat) (by omega) (by omega)
    have h2 := at2_wid ht (i := (at2 P k 1).toNat) (j := (at2 P j 1).toNat) (by omega) (by omega)
    unfold dif at hx
    omega
theorem unsV_wid {D E : List (List Int)} (hs : spB D = true) (ht : spB E = true) (h3 : D.length ≤ 3) (k3 : E.length ≤ 3) : 0 ≤ unsV D E ∧ unsV D E ≤ max (widI D) (widI E) := by
  obtain ⟨x, hx⟩ := some_choice hs ht h3 k3
  obtain ⟨a1, a2, a3⟩ := unsI_least D E
  have e : unsV D E = unsI D E := if_pos ⟨hs, ht, h3, k3⟩
  have h1 := a2 _ hx
  obtain ⟨ch, hch, h0, ex⟩ := hx
  rcases unlV_cases D E (prs D.length E.length ch) with ⟨q, _⟩ | ⟨q, _, _, ho⟩
  · unfold chV at h0; omega
  · have hw := unlI_wid hs ht ho.1
    have hq : x = unlI D E (prs D.length E.length ch) := ex.trans q
    refine ⟨?_, by omega⟩
    rw [e]
    rcases a3 with a3 | ⟨c, _, c0, ce⟩
    · omega
    · omega
/-- the least difference is reached -/
theorem unsV_at {D E : List (List Int)} (hs : spB D = true) (ht : spB E = true) (h3 : D.length ≤ 3) (k3 : E.length ≤ 3) : ChS D E (unsV D E) := by
  have e : unsV D E = unsI D E := if_pos ⟨hs, ht, h3, k3⟩
  have hx := some_choice hs ht h3 k3
  rw [e, ← uns_same hx]
  rcases (unsS_least D E).1 (by decide) with ⟨_, b⟩ | ⟨b1, _⟩
  · obtain ⟨x, hx⟩ := hx; exact absurd hx (b x)
  · exact b1
/-- at 0 each pair of pairs is equally far apart, and the pairs meet each point -/
theorem unsV_zero {D E : List (List Int)} (hs : spB D = true) (ht : spB E = true) (h3 : D.length ≤ 3) (k3 : E.length ≤ 3) (h : unsV D E = 0) :
    ∃ P, okU D E P ∧ ∀ k, k < P.length → ∀ j, j < P.length → at2 D (at2 P k 0).toNat (at2 P j 0).toNat = at2 E (at2 P k 1).toNat (at2 P j 1).toNat := by
  obtain ⟨ch, hch, h0, ex⟩ := unsV_at hs ht h3 k3
  rw [h] at ex
  rcases unlV_cases D E (prs D.length E.length ch) with ⟨q, _⟩ | ⟨q, _, _, ho⟩
  · unfold chV at h0; omega
  · refine ⟨_, ho, fun k hk j hj => ?_⟩
    have hq : 0 = unlI D E (prs D.length E.length ch) := ex.trans q
    obtain ⟨c1, c2, c3⟩ := unlI_most D E (prs D.length E.length ch)
    have g1 := c2 _ ⟨k, hk, j, hj, .inl rfl⟩
    have g2 := c2 _ ⟨k, hk, j, hj, .inr rfl⟩
    unfold dif at g1 g2
    omega
end Go.Proofs.Ytpkiodpocggfbaa
