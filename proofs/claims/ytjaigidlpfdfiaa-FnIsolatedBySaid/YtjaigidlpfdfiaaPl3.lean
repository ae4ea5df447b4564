/- What is proved: plain laws of what a lot isolates: no more than any distance across; the leg of the first point. No condition. -/
import Derived.Test.YtjaigidlpfdfiaaIsoP
import Derived.Test.YtjaigidlpfdfiaaPl1
namespace Go.Proofs.Ytjaigidlpfdfiaa
open Go.RowKit
theorem gap4_pair {D : List (List Int)} (hs : spB D = true) {k j : Nat} (hk : k < D.length) (hj : j < D.length) : gap4 D k k j j = 2 * at2 D k j := by
  have hc := (farB_parts (spB_far hs)).2.2
  have h1 := (hc k hk k hk).2.2.2.2 rfl
  have h2 := (hc j hj j hj).2.2.2.2 rfl
  have h3 := (hc k hk j hj).1
  show max (max (at2 D k k + at2 D j j) (at2 D k j + at2 D k j)) (at2 D k j + at2 D k j) - (at2 D k k + at2 D j j) = _
  omega
theorem iso_across {D : List (List Int)} {l : Int} (hs : spB D = true) {k j : Nat} (hk : k < D.length) (hj : j < D.length) (hb : bitI l k ≠ bitI l j) : isoI D l ≤ 2 * at2 D k j := by
  obtain ⟨_, h, _⟩ := isoI_least D l
  rcases bitI_01 l k with b1 | b1 <;> rcases bitI_01 l j with b2 | b2
  · exact absurd (b1.trans b2.symm) hb
  · have := h (gap4 D j j k k) ⟨j, hj, j, hj, k, hk, k, hk, ⟨b2, b2, b1, b1⟩, rfl⟩
    rw [gap4_pair hs hj hk, at2_sym (spB_far hs) hj hk] at this
    exact this
  · have := h (gap4 D k k j j) ⟨k, hk, k, hk, j, hj, j, hj, ⟨b1, b1, b2, b2⟩, rfl⟩
    rw [gap4_pair hs hk hj] at this
    exact this
  · exact absurd (b1.trans b2.symm) hb

/-- twice the leg of a point -/
def legI (D : List (List Int)) (p : Nat) : Int := itR (fun a s => itR (fun b s => if a ≠ p ∧ b ≠ p then min s (at2 D p a + at2 D p b - at2 D a b) else s) a 0 s) D.length 0 120
def LegS (D : List (List Int)) (p : Nat) (x : Int) : Prop := ∃ a, a < D.length ∧ ∃ b, b < a ∧ (a ≠ p ∧ b ≠ p) ∧ x = at2 D p a + at2 D p b - at2 D a b
theorem legI_least (D : List (List Int)) (p : Nat) : LeastOr (legI D p) 120 (LegS D p) := by
  unfold legI
  refine (itR_least (S := fun a x => ∃ b, b < a ∧ (a ≠ p ∧ b ≠ p) ∧ x = at2 D p a + at2 D p b - at2 D a b) _ _ fun a _ s => ?_).congr fun x => Iff.rfl
  refine (itR_least (S := fun b x => (a ≠ p ∧ b ≠ p) ∧ x = at2 D p a + at2 D p b - at2 D a b) _ _ fun b _ s => ?_).congr fun x => Iff.rfl
  by_cases h : a ≠ p ∧ b ≠ p
  · rw [if_pos h]
    refine ⟨Int.min_le_left _ _, fun x hx => by rw [hx.2]; exact Int.min_le_right _ _, ?_⟩
    rcases Int.le_total s (at2 D p a + at2 D p b - at2 D a b) with q | q
    · exact .inl (Int.min_eq_left q)
    · exact .inr ⟨h, Int.min_eq_right q⟩
  · rw [if_neg h]
    exact ⟨Int.le_refl _, fun x hx => absurd hx.1 h, .inl rfl⟩
theorem bitI_one {k : Nat} : bitI 1 k = 1 ↔ k = 0 := by
  constructor
  · intro h
    by_cases e : k = 0
    · exact e
    · obtain ⟨m, rfl⟩ : ∃ m, k = m + 1 := ⟨k - 1, by omega⟩
      unfold bitI at h
      have : (0 : Int) < 2 ^ m := Int.pow_pos (by decide)
      rw [Int.pow_succ, Int.ediv_eq_zero_of_lt (by decide) (by omega)] at h
      omega
  · rintro rfl; rfl
theorem bitI_one0 {k : Nat} : bitI 1 k = 0 ↔ k ≠ 0 := by
  have := bitI_01 1 k
  have h := bitI_one (k := k)
  constructor
  · intro h0 e; rw [h.2 e] at h0; omega
  · intro h0; rcases this with h1 | h1
    · exact h1
    · exact absurd (h.1 h1) h0
theorem iso_leg {D : List (List Int)} (hs : spB D = true) (hn : 3 ≤ D.length) : isoI D 1 = legI D 0 := by
  have hc := (farB_parts (spB_far hs)).2.2
  obtain ⟨a1, a2, a3⟩ := isoI_least D 1
  obtain ⟨b1, b2, b3⟩ := legI_least D 0
  have g : ∀ c e : Nat, c < D.length → e < D.length → gap4 D 0 0 c e = at2 D 0 c + at2 D 0 e - at2 D c e := fun c e hc' he => by
    have h1 := (hc 0 (by omega) 0 (by omega)).2.2.2.2 rfl
    have h2 := spB_tri hs hc' he (show 0 < D.length by omega)
    have h3 := (hc c hc' 0 (by omega)).2.2.1
    show max (max (at2 D 0 0 + at2 D c e) (at2 D 0 c + at2 D 0 e)) (at2 D 0 e + at2 D 0 c) - (at2 D 0 0 + at2 D c e) = _
    omega
  have up : ∀ c e : Nat, c < D.length → e < D.length → c ≠ 0 → e ≠ 0 → isoI D 1 ≤ at2 D 0 c + at2 D 0 e - at2 D c e := fun c e hc' he c0 e0 => by
    rw [← g c e hc' he]
    exact a2 _ ⟨0, by omega, 0, by omega, c, hc', e, he, ⟨rfl, rfl, bitI_one0.2 c0, bitI_one0.2 e0⟩, rfl⟩
  refine Int.le_antisymm ?_ ?_
  · rcases b3 with b3 | ⟨a, ha, b, hb, ⟨h1, h2⟩, e⟩
    · rw [b3]
      have h1 := up 1 1 (by omega) (by omega) (by omega) (by omega)
      have h2 := (hc 0 (by omega) 1 (by omega)).2.1
      have h3 := (hc 1 (by omega) 1 (by omega)).2.2.2.2 rfl
      omega
    · rw [e]; exact up a b ha (by omega) h1 h2
  · rcases a3 with a3 | ⟨a, ha, b, hb, c, hc', e, he, ⟨k1, k2, k3, k4⟩, hx⟩
    · omega
    · have := bitI_one.1 k1
      have := bitI_one.1 k2
      have c0 := bitI_one0.1 k3
      have e0 := bitI_one0.1 k4
      subst a; subst b
      rw [g c e hc' he] at hx
      rw [hx]
      by_cases q : c = e
      · subst q
        obtain ⟨x, x0, xc, xn⟩ : ∃ x, x ≠ 0 ∧ x ≠ c ∧ x < D.length := by
          by_cases c1 : c = 1
          · exact ⟨2, by omega, by omega, by omega⟩
          · exact ⟨1, by omega, by omega, by omega⟩
        have t := spB_tri hs (i := 0) (k := x) (j := c) (by omega) xn hc'
        have z := (hc c hc' c hc').2.2.2.2 rfl
        have s := (hc c hc' x xn).2.2.1
        by_cases q : x < c
        · have := b2 _ ⟨c, hc', x, q, ⟨c0, x0⟩, rfl⟩; omega
        · have := b2 _ ⟨x, xn, c, by omega, ⟨x0, c0⟩, rfl⟩; omega
      · have s := (hc c hc' e he).2.2.1
        by_cases q2 : e < c
        · have := b2 _ ⟨c, hc', e, q2, ⟨c0, e0⟩, rfl⟩; omega
        · have := b2 _ ⟨e, he, c, by omega, ⟨e0, c0⟩, rfl⟩; omega
end Go.Proofs.Ytjaigidlpfdfiaa
