/- What is proved: the least difference of two spaces is 0 exactly if a map takes the one onto the other and keeps each distance. No condition. -/
import Derived.Test.YtpkiodpocggfbaaUnsR
namespace Go.Proofs.Ytpkiodpocggfbaa
open Go.RowKit
/-- f takes the points of D onto those of E and keeps the distances -/
def IsoM (D E : List (List Int)) (f : Nat → Nat) : Prop :=
  (∀ a, a < D.length → f a < E.length) ∧ (∀ b, b < E.length → ∃ a, a < D.length ∧ f a = b) ∧ ∀ a, a < D.length → ∀ a', a' < D.length → at2 D a a' = at2 E (f a) (f a')
theorem IsoM.inj {D E : List (List Int)} {f : Nat → Nat} (hs : spB D = true) (h : IsoM D E f) {a b : Nat} (ha : a < D.length) (hb : b < D.length) (e : f a = f b) : a = b := by
  obtain ⟨-, -, hc⟩ := farB_parts (spB_far hs)
  have h1 := h.2.2 a ha b hb
  have h2 := h.2.2 b hb b hb
  have h3 := (hc b hb b hb).2.2.2.2 rfl
  rw [e, ← h2, h3] at h1
  exact (hc a ha b hb).2.2.2.1 h1
theorem pig3 {f : Nat → Nat} {n m : Nat} (hn : n ≤ 3) (hf : ∀ a, a < n → f a < m) (hi : ∀ a b, a < n → b < n → f a = f b → a = b) : n ≤ m := by
  rcases Nat.lt_or_ge m n with q | q
  · have c : m = 0 ∨ m = 1 ∨ m = 2 := by omega
    have f0 := hf 0
    have f1 := hf 1
    have f2 := hf 2
    have i1 := hi 0 1
    have i2 := hi 0 2
    have i3 := hi 1 2
    rcases c with rfl | rfl | rfl <;> omega
  · exact q
/-- at 0 there is such a map -/
theorem iso_of_zero {D E : List (List Int)} (hs : spB D = true) (ht : spB E = true) (h3 : D.length ≤ 3) (k3 : E.length ≤ 3) (h : unsV D E = 0) : ∃ f, IsoM D E f := by
  obtain ⟨P, ⟨o1, o2, o3⟩, hP⟩ := unsV_zero hs ht h3 k3 h
  obtain ⟨-, -, hcD⟩ := farB_parts (spB_far hs)
  obtain ⟨-, -, hcE⟩ := farB_parts (spB_far ht)
  have hex : ∀ a, ∃ k, a < D.length → (k < P.length ∧ at2 P k 0 = (a : Int)) := fun a => by
    by_cases q : a < D.length
    · obtain ⟨k, hk, e⟩ := cov (by omega) (fun k hk => (o1 k hk).2.1) o2 q
      exact ⟨k, fun _ => ⟨hk, e⟩⟩
    · exact ⟨0, fun k => absurd k q⟩
  obtain ⟨g, hg⟩ := Classical.axiomOfChoice hex
  refine ⟨fun a => (at2 P (g a) 1).toNat, fun a ha => ?_, fun b hb => ?_, fun a ha a' ha' => ?_⟩
  · obtain ⟨hk, e⟩ := hg a ha
    obtain ⟨-, -, u0, u1⟩ := o1 _ hk
    show (at2 P (g a) 1).toNat < E.length
    omega
  · obtain ⟨k, hk, e⟩ := cov (by omega) (fun k hk => (o1 k hk).2.2) o3 hb
    obtain ⟨-, ⟨v0, v1⟩, u0, u1⟩ := o1 _ hk
    have ha : (at2 P k 0).toNat < D.length := by omega
    refine ⟨(at2 P k 0).toNat, ha, ?_⟩
    obtain ⟨hk', e'⟩ := hg _ ha
    obtain ⟨-, -, x0, x1⟩ := o1 _ hk'
    have hz := hP _ hk' _ hk
    rw [show (at2 P (g (at2 P k 0).toNat) 0).toNat = (at2 P k 0).toNat by omega, (hcD _ ha _ ha).2.2.2.2 rfl] at hz
    have := (hcE (at2 P (g (at2 P k 0).toNat) 1).toNat (by omega) (at2 P k 1).toNat (by omega)).2.2.2.1 hz.symm
    show (at2 P (g (at2 P k 0).toNat) 1).toNat = b
    omega
  · obtain ⟨hk, e⟩ := hg a ha
    obtain ⟨hk', e'⟩ := hg a' ha'
    have hz := hP _ hk _ hk'
    rw [e, e'] at hz
    simpa using hz
/-- such a map makes it 0 -/
theorem zero_of_iso {D E : List (List Int)} (hs : spB D = true) (ht : spB E = true) (h3 : D.length ≤ 3) (k3 : E.length ≤ 3) {f : Nat → Nat} (h : IsoM D E f) : unsV D E = 0 := by
  obtain ⟨f1, f2, f3⟩ := h
  obtain ⟨ch, hch, hr⟩ := prs_any D.length E.length (fun a b => decide (f a = b))
  have hrow : ∀ k, k < (prs D.length E.length ch).length → ∃ a : Nat, a < D.length ∧ row (prs D.length E.length ch) k = [(a : Int), (f a : Int)] := fun k hk => by
    obtain ⟨a, b, ha, hb, q, e⟩ := (hr _).1 (row_in hk)
    have q := of_decide_eq_true q
    subst q
    exact ⟨a, ha, e⟩
  have hin : ∀ a : Nat, a < D.length → ∃ k, k < (prs D.length E.length ch).length ∧ row (prs D.length E.length ch) k = [(a : Int), (f a : Int)] := fun a ha =>
    in_row ((hr _).2 ⟨a, f a, ha, f1 a ha, decide_eq_true rfl, rfl⟩)
  have hat : ∀ (k a : Nat), row (prs D.length E.length ch) k = [(a : Int), (f a : Int)] → at2 (prs D.length E.length ch) k 0 = (a : Int) ∧ at2 (prs D.length E.length ch) k 1 = (f a : Int) := fun k a e => by
    unfold at2; rw [e]; exact ⟨rfl, rfl⟩
  have hok : okP D E (prs D.length E.length ch) := fun k hk => by
    obtain ⟨a, ha, e⟩ := hrow k hk
    obtain ⟨e0, e1⟩ := hat k a e
    have := f1 a ha
    rw [e0, e1, e]
    exact ⟨rfl, ⟨by omega, by omega⟩, ⟨by omega, by omega⟩⟩
  have ho : okU D E (prs D.length E.length ch) := by
    refine ⟨hok, msk_full (by omega) (fun k hk => (hok k hk).2.1) fun a ha => ?_, msk_full (by omega) (fun k hk => (hok k hk).2.2) fun b hb => ?_⟩
    · obtain ⟨k, hk, e⟩ := hin a ha
      exact ⟨k, hk, (hat k a e).1⟩
    · obtain ⟨a, ha, rfl⟩ := f2 b hb
      obtain ⟨k, hk, e⟩ := hin a ha
      exact ⟨k, hk, (hat k a e).2⟩
  have hz : unlI D E (prs D.length E.length ch) = 0 := by
    obtain ⟨c1, c2, c3⟩ := unlI_most D E (prs D.length E.length ch)
    rcases c3 with c3 | ⟨k, hk, j, hj, hx⟩
    · exact c3
    · obtain ⟨a, ha, e⟩ := hrow k hk
      obtain ⟨b, hb, e'⟩ := hrow j hj
      obtain ⟨p0, p1⟩ := hat k a e
      obtain ⟨q0, q1⟩ := hat j b e'
      have hd : dif D E (prs D.length E.length ch) k j = 0 := by
        unfold dif
        rw [p0, p1, q0, q1]
        have := f3 a ha b hb
        simp only [Int.toNat_natCast]
        omega
      rw [hd] at hx
      omega
  have hv : chV D E ch = 0 := by
    unfold chV
    rw [unlV_yes ⟨hs, ht, ho⟩, hz]
  have h0 := (unsV_wid hs ht h3 k3).1
  have e : unsV D E = unsI D E := if_pos ⟨hs, ht, h3, k3⟩
  have := (unsI_least D E).2.1 0 ⟨ch, hch, by omega, hv.symm⟩
  omega
/-- then both have as many points -/
theorem IsoM.len {D E : List (List Int)} {f : Nat → Nat} (hs : spB D = true) (ht : spB E = true) (h3 : D.length ≤ 3) (k3 : E.length ≤ 3) (h : IsoM D E f) : D.length = E.length := by
  have h1 := pig3 (f := f) h3 h.1 fun a b ha hb e => h.inj hs ha hb e
  obtain ⟨g, hg⟩ := iso_of_zero ht hs k3 h3 (by rw [unsV_ex]; exact zero_of_iso hs ht h3 k3 h)
  have h2 := pig3 (f := g) k3 hg.1 fun a b ha hb e => hg.inj ht ha hb e
  omega
end Go.Proofs.Ytpkiodpocggfbaa
