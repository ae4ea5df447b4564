/- What is proved: spec.IsolatedBy and impl.IsolatedBy return the same numbers. No condition. -/
import Derived.Test.YtcejdgnfmcgopaaGreatDoorIsoS
import Derived.Test.YtcejdgnfmcgopaaGreatDoorMeds
namespace Go.Proofs.YtcejdgnfmcgopaaGreatDoor
open Go.RowKit

/-- m is the least value of f where q holds, at most t; t where it holds nowhere -/
def LeastOr (m t : Int) (S : Int → Prop) : Prop := m ≤ t ∧ (∀ x, S x → m ≤ x) ∧ (m = t ∨ S m)

/-- what the loops over a state of one number make: each value of S joins by min -/
theorem itR_least {f : Nat → Int → Int} {S : Nat → Int → Prop} (n : Nat) (s : Int) (hf : ∀ k, k < n → ∀ s, LeastOr (f k s) s (S k)) : LeastOr (itR f n 0 s) s (fun x => ∃ k, k < n ∧ S k x) := by
  have := itR_inv (f := f) (fun j (t : Int) => LeastOr t s (fun x => ∃ k, k < j ∧ S k x)) n 0 s ⟨Int.le_refl _, fun x ⟨k, hk, _⟩ => absurd hk (by omega), .inl rfl⟩ (fun j t _ hj h => by
    obtain ⟨h1, h2, h3⟩ := h
    obtain ⟨g1, g2, g3⟩ := hf j (by omega) t
    refine ⟨by omega, fun x hx => ?_, ?_⟩
    · obtain ⟨k, hk, hx⟩ := hx
      by_cases e : k = j
      · subst e; exact g2 x hx
      · have := h2 x ⟨k, by omega, hx⟩; omega
    · rcases g3 with g3 | g3
      · rcases h3 with h3 | ⟨k, hk, h3⟩
        · left; rw [g3]; exact h3
        · right; rw [g3]; exact ⟨k, by omega, h3⟩
      · right; exact ⟨j, by omega, g3⟩)
  simpa using this
theorem LeastOr.congr {m t : Int} {S T : Int → Prop} (h : LeastOr m t S) (e : ∀ x, S x ↔ T x) : LeastOr m t T := ⟨h.1, fun x hx => h.2.1 x ((e x).2 hx), h.2.2.imp id fun k => (e m).1 k⟩

/-- the values of a lot -/
def IsoS (D : List (List Int)) (l : Int) (x : Int) : Prop := ∃ a, a < D.length ∧ ∃ b, b < D.length ∧ ∃ c, c < D.length ∧ ∃ e, e < D.length ∧ (bitI l a = 1 ∧ bitI l b = 1 ∧ bitI l c = 0 ∧ bitI l e = 0) ∧ x = gap4 D a b c e
theorem isoI_least (D : List (List Int)) (l : Int) : LeastOr (isoI D l) 240 (IsoS D l) := by
  unfold isoI
  refine (itR_least (S := fun a x => ∃ b, b < D.length ∧ ∃ c, c < D.length ∧ ∃ e, e < D.length ∧ (bitI l a = 1 ∧ bitI l b = 1 ∧ bitI l c = 0 ∧ bitI l e = 0) ∧ x = gap4 D a b c e) _ _ fun a _ s => ?_).congr fun x => Iff.rfl
  unfold iso3
  refine (itR_least (S := fun b x => ∃ c, c < D.length ∧ ∃ e, e < D.length ∧ (bitI l a = 1 ∧ bitI l b = 1 ∧ bitI l c = 0 ∧ bitI l e = 0) ∧ x = gap4 D a b c e) _ _ fun b _ s => ?_).congr fun x => Iff.rfl
  unfold iso2
  refine (itR_least (S := fun c x => ∃ e, e < D.length ∧ (bitI l a = 1 ∧ bitI l b = 1 ∧ bitI l c = 0 ∧ bitI l e = 0) ∧ x = gap4 D a b c e) _ _ fun c _ s => ?_).congr fun x => Iff.rfl
  unfold iso1
  refine (itR_least (S := fun e x => (bitI l a = 1 ∧ bitI l b = 1 ∧ bitI l c = 0 ∧ bitI l e = 0) ∧ x = gap4 D a b c e) _ _ fun e _ s => ?_).congr fun x => Iff.rfl
  by_cases h : bitI l a = 1 ∧ bitI l b = 1 ∧ bitI l c = 0 ∧ bitI l e = 0
  · rw [isoStep_yes h]
    refine ⟨Int.min_le_left _ _, fun x hx => by rw [hx.2]; exact Int.min_le_right _ _, ?_⟩
    rcases Int.le_total s (gap4 D a b c e) with q | q
    · exact .inl (Int.min_eq_left q)
    · exact .inr ⟨h, Int.min_eq_right q⟩
  · rw [isoStep_no h]
    exact ⟨Int.le_refl _, fun x hx => absurd hx.1 h, .inl rfl⟩

/-- the same with -1 for 'none yet' -/
def LeastNo (m t : Int) (S : Int → Prop) : Prop := (t < 0 → ((m = t ∧ ∀ x, ¬ S x) ∨ (S m ∧ ∀ x, S x → m ≤ x))) ∧ (0 ≤ t → LeastOr m t S)
theorem LeastNo.congr {m t : Int} {S T : Int → Prop} (h : LeastNo m t S) (e : ∀ x, S x ↔ T x) : LeastNo m t T :=
  ⟨fun ht => (h.1 ht).imp (fun k => ⟨k.1, fun x hx => k.2 x ((e x).2 hx)⟩) (fun k => ⟨(e m).1 k.1, fun x hx => k.2 x ((e x).2 hx)⟩), fun ht => (h.2 ht).congr e⟩
theorem itR_leastNo {f : Nat → Int → Int} {S : Nat → Int → Prop} (n : Nat) (s : Int) (hS : ∀ k, k < n → ∀ x, S k x → 0 ≤ x) (hf : ∀ k, k < n → ∀ s, -1 ≤ s → LeastNo (f k s) s (S k)) (h1 : -1 ≤ s) : LeastNo (itR f n 0 s) s (fun x => ∃ k, k < n ∧ S k x) := by
  have := itR_inv (f := f) (fun j (t : Int) => -1 ≤ t ∧ LeastNo t s (fun x => ∃ k, k < j ∧ S k x)) n 0 s ⟨h1, fun _ => .inl ⟨rfl, fun x ⟨k, hk, _⟩ => absurd hk (by omega)⟩, fun _ => ⟨Int.le_refl _, fun x ⟨k, hk, _⟩ => absurd hk (by omega), .inl rfl⟩⟩ (fun j t _ hj h => by
    obtain ⟨h0, h2, h3⟩ := h
    have hfj := hf j (by omega) t h0
    have hSj := hS j (by omega)
    by_cases ht : t < 0
    · have hs : s < 0 := by
        rcases Int.lt_or_le s 0 with q | q
        · exact q
        · obtain ⟨_, _, k⟩ := h3 q
          rcases k with k | ⟨k, hk, k2⟩
          · omega
          · have := hS k (by omega) t k2; omega
      have hno : ∀ x, ¬ ∃ k, k < j ∧ S k x := by
        rcases h2 hs with ⟨_, q⟩ | ⟨⟨k, hk, q⟩, _⟩
        · exact q
        · have := hS k (by omega) t q; omega
      rcases hfj.1 ht with ⟨q1, q2⟩ | ⟨q1, q2⟩
      · refine ⟨by rw [q1]; exact h0, fun _ => .inl ⟨?_, fun x ⟨k, hk, hx⟩ => ?_⟩, fun h => absurd h (by omega)⟩
        · rw [q1]
          rcases h2 hs with ⟨q, _⟩ | ⟨q, _⟩
          · exact q
          · exact absurd q (hno t)
        · by_cases e : k = j
          · subst e; exact q2 x hx
          · exact hno x ⟨k, by omega, hx⟩
      · refine ⟨by have := hSj _ q1; omega, fun _ => .inr ⟨⟨j, by omega, q1⟩, fun x ⟨k, hk, hx⟩ => ?_⟩, fun h => absurd h (by omega)⟩
        by_cases e : k = j
        · subst e; exact q2 x hx
        · exact absurd ⟨k, by omega, hx⟩ (hno x)
    · obtain ⟨g1, g2, g3⟩ := hfj.2 (by omega)
      have g4 : 0 ≤ f j t := by
        rcases g3 with g3 | g3
        · omega
        · exact hSj _ g3
      refine ⟨by omega, fun hs => .inr ?_, fun hs => ?_⟩
      · rcases h2 hs with ⟨q, _⟩ | ⟨⟨k0, hk0, q⟩, q2⟩
        · omega
        · refine ⟨?_, fun x ⟨k, hk, hx⟩ => ?_⟩
          · rcases g3 with g3 | g3
            · rw [g3]; exact ⟨k0, by omega, q⟩
            · exact ⟨j, by omega, g3⟩
          · by_cases e : k = j
            · subst e; exact g2 x hx
            · have := q2 x ⟨k, by omega, hx⟩; omega
      · obtain ⟨p1, p2, p3⟩ := h3 hs
        refine ⟨by omega, fun x ⟨k, hk, hx⟩ => ?_, ?_⟩
        · by_cases e : k = j
          · subst e; exact g2 x hx
          · have := p2 x ⟨k, by omega, hx⟩; omega
        · rcases g3 with g3 | g3
          · rcases p3 with p3 | ⟨k, hk, p3⟩
            · left; omega
            · right; rw [g3]; exact ⟨k, by omega, p3⟩
          · right; exact ⟨j, by omega, g3⟩)
  have := this.2
  simpa using this

def SisoS (D : List (List Int)) (l : Int) (x : Int) : Prop := ∃ a, a < D.length ∧ ∃ b, b < a + 1 ∧ ∃ c, c < D.length ∧ ∃ e, e < c + 1 ∧ (bitI l a = 1 ∧ bitI l b = 1 ∧ bitI l c = 0 ∧ bitI l e = 0) ∧ x = gap4 D a b c e
theorem sisoI_least {D : List (List Int)} (hf : farB D = true) (l : Int) : LeastNo (sisoI D l) (-1) (SisoS D l) := by
  unfold sisoI
  refine (itR_leastNo (S := fun a x => ∃ b, b < a + 1 ∧ ∃ c, c < D.length ∧ ∃ e, e < c + 1 ∧ (bitI l a = 1 ∧ bitI l b = 1 ∧ bitI l c = 0 ∧ bitI l e = 0) ∧ x = gap4 D a b c e) _ _
    (fun a ha x hx => by obtain ⟨b, hb, c, hc, e, he, _, rfl⟩ := hx; exact (gap4_bd hf ha (by omega) hc (by omega)).1) (fun a ha s hs => ?_) (by decide)).congr fun x => Iff.rfl
  unfold sis3
  refine (itR_leastNo (S := fun b x => ∃ c, c < D.length ∧ ∃ e, e < c + 1 ∧ (bitI l a = 1 ∧ bitI l b = 1 ∧ bitI l c = 0 ∧ bitI l e = 0) ∧ x = gap4 D a b c e) _ _
    (fun b hb x hx => by obtain ⟨c, hc, e, he, _, rfl⟩ := hx; exact (gap4_bd hf ha (by omega) hc (by omega)).1) (fun b hb s hs => ?_) hs).congr fun x => Iff.rfl
  by_cases q : bitI l a = 0 ∨ bitI l b = 0
  · rw [if_pos q]
    have hno : ∀ x, ¬ ∃ c, c < D.length ∧ ∃ e, e < c + 1 ∧ (bitI l a = 1 ∧ bitI l b = 1 ∧ bitI l c = 0 ∧ bitI l e = 0) ∧ x = gap4 D a b c e := fun x ⟨c, _, e, _, k, _⟩ => by
      rcases q with q | q
      · rw [q] at k; exact absurd k.1 (by decide)
      · rw [q] at k; exact absurd k.2.1 (by decide)
    exact ⟨fun _ => .inl ⟨rfl, hno⟩, fun _ => ⟨Int.le_refl _, fun x hx => absurd hx (hno x), .inl rfl⟩⟩
  · rw [if_neg q]
    unfold sis2
    refine (itR_leastNo (S := fun c x => ∃ e, e < c + 1 ∧ (bitI l a = 1 ∧ bitI l b = 1 ∧ bitI l c = 0 ∧ bitI l e = 0) ∧ x = gap4 D a b c e) _ _
      (fun c hc x hx => by obtain ⟨e, he, _, rfl⟩ := hx; exact (gap4_bd hf ha (by omega) hc (by omega)).1) (fun c hc s hs => ?_) hs).congr fun x => Iff.rfl
    unfold sis1
    refine (itR_leastNo (S := fun e x => (bitI l a = 1 ∧ bitI l b = 1 ∧ bitI l c = 0 ∧ bitI l e = 0) ∧ x = gap4 D a b c e) _ _
      (fun e he x hx => by rw [hx.2]; exact (gap4_bd hf ha (by omega) hc (by omega)).1) (fun e he s hs => ?_) hs).congr fun x => Iff.rfl
    have ha1 : bitI l a = 1 := (bitI_01 l a).resolve_left fun k => q (.inl k)
    have hb1 : bitI l b = 1 := (bitI_01 l b).resolve_left fun k => q (.inr k)
    by_cases q2 : bitI l c = 1 ∨ bitI l e = 1
    · rw [if_pos q2]
      have hno : ∀ x, ¬ ((bitI l a = 1 ∧ bitI l b = 1 ∧ bitI l c = 0 ∧ bitI l e = 0) ∧ x = gap4 D a b c e) := fun x ⟨k, _⟩ => by
        rcases q2 with q2 | q2
        · rw [q2] at k; exact absurd k.2.2.1 (by decide)
        · rw [q2] at k; exact absurd k.2.2.2 (by decide)
      exact ⟨fun _ => .inl ⟨rfl, hno⟩, fun _ => ⟨Int.le_refl _, fun x hx => absurd hx (hno x), .inl rfl⟩⟩
    · rw [if_neg q2]
      have hc0 : bitI l c = 0 := (bitI_01 l c).resolve_right fun k => q2 (.inl k)
      have he0 : bitI l e = 0 := (bitI_01 l e).resolve_right fun k => q2 (.inr k)
      have hg := gap4_bd hf ha (by omega : b < D.length) hc (by omega : e < D.length)
      unfold sisoStep
      refine ⟨fun ht => .inr ?_, fun ht => ?_⟩
      · rw [if_pos (.inl ht)]
        exact ⟨⟨⟨ha1, hb1, hc0, he0⟩, rfl⟩, fun x hx => by rw [hx.2]; exact Int.le_refl _⟩
      · by_cases q3 : s < 0 ∨ gap4 D a b c e < s
        · rw [if_pos q3]
          exact ⟨by omega, fun x hx => by rw [hx.2]; exact Int.le_refl _, .inr ⟨⟨ha1, hb1, hc0, he0⟩, rfl⟩⟩
        · rw [if_neg q3]
          exact ⟨Int.le_refl _, fun x hx => by rw [hx.2]; omega, .inl rfl⟩

theorem at2_sym {D : List (List Int)} (hf : farB D = true) {i k : Nat} (hi : i < D.length) (hk : k < D.length) : at2 D i k = at2 D k i := ((farB_parts hf).2.2 i hi k hk).2.2.1
theorem gap4_sw1 {D : List (List Int)} (hf : farB D = true) {a b c e : Nat} (ha : a < D.length) (hb : b < D.length) (_hc : c < D.length) (_he : e < D.length) : gap4 D a b c e = gap4 D b a c e := by
  show max (max (at2 D a b + at2 D c e) (at2 D a c + at2 D b e)) (at2 D a e + at2 D b c) - (at2 D a b + at2 D c e) = max (max (at2 D b a + at2 D c e) (at2 D b c + at2 D a e)) (at2 D b e + at2 D a c) - (at2 D b a + at2 D c e)
  rw [at2_sym hf hb ha]
  omega
theorem gap4_sw2 {D : List (List Int)} (hf : farB D = true) {a b c e : Nat} (_ha : a < D.length) (_hb : b < D.length) (hc : c < D.length) (he : e < D.length) : gap4 D a b c e = gap4 D a b e c := by
  show max (max (at2 D a b + at2 D c e) (at2 D a c + at2 D b e)) (at2 D a e + at2 D b c) - (at2 D a b + at2 D c e) = max (max (at2 D a b + at2 D e c) (at2 D a e + at2 D b c)) (at2 D a c + at2 D b e) - (at2 D a b + at2 D e c)
  rw [at2_sym hf he hc]
  omega
theorem SisoS_iff {D : List (List Int)} (hf : farB D = true) (l x : Int) : SisoS D l x ↔ IsoS D l x := by
  constructor
  · rintro ⟨a, ha, b, hb, c, hc, e, he, k, rfl⟩
    exact ⟨a, ha, b, by omega, c, hc, e, by omega, k, rfl⟩
  · rintro ⟨a, ha, b, hb, c, hc, e, he, k, rfl⟩
    obtain ⟨a', ha', b', hb', ka, kb, kg⟩ : ∃ a', a' < D.length ∧ ∃ b', b' < a' + 1 ∧ bitI l a' = 1 ∧ bitI l b' = 1 ∧ gap4 D a b c e = gap4 D a' b' c e := by
      by_cases q : b ≤ a
      · exact ⟨a, ha, b, by omega, k.1, k.2.1, rfl⟩
      · exact ⟨b, hb, a, by omega, k.2.1, k.1, gap4_sw1 hf ha hb hc he⟩
    rw [kg]
    by_cases q : e ≤ c
    · exact ⟨a', ha', b', hb', c, hc, e, by omega, ⟨ka, kb, k.2.2.1, k.2.2.2⟩, rfl⟩
    · exact ⟨a', ha', b', hb', e, he, c, by omega, ⟨ka, kb, k.2.2.2, k.2.2.1⟩, gap4_sw2 hf ha' (by omega) hc he⟩

/-- a lot has a point, and its other lot too -/
theorem lot_some {n : Nat} {l : Int} (h1 : 1 ≤ l) (h2 : l < 2 ^ n) : ∃ k, k < n ∧ bitI l k = 1 := by
  induction n generalizing l with
  | zero => simp at h2; omega
  | succ n ih =>
    by_cases e : l % 2 = 1
    · exact ⟨0, by omega, by unfold bitI; simpa using e⟩
    · rw [Int.pow_succ] at h2
      obtain ⟨k, hk, hb⟩ := ih (l := l / 2) (by omega) (by omega)
      refine ⟨k + 1, by omega, ?_⟩
      unfold bitI at hb ⊢
      rw [Int.pow_succ, Int.mul_comm, ← Int.ediv_ediv_of_nonneg (by decide)]
      exact hb
theorem bit_last {n : Nat} {l : Int} (h0 : 0 ≤ l) (h2 : l < 2 ^ n) : bitI l n = 0 := by
  unfold bitI; rw [Int.ediv_eq_zero_of_lt h0 h2]; rfl
def isoV (D : List (List Int)) (l : Int) : Int := if splitB D l = true then isoI D l else -1
end Go.Proofs.YtcejdgnfmcgopaaGreatDoor
