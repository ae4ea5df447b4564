/- What is proved: the plain law of splits: in a tree, and of at most four points, nothing is left behind all splits. No condition. -/
import Derived.Test.YtimelegkgaimjaaBD3
import Derived.Test.YtimelegkgaimjaaLot
namespace Go.Proofs.Ytimelegkgaimjaa
open Go.RowKit

/-- each split is that of a lot -/
theorem lot_of {n : Nat} (hn : 1 ≤ n) (s : Nat → Bool) (h : ∃ a, a < n ∧ ∃ b, b < n ∧ s a ≠ s b) : ∃ l : Int, 1 ≤ l ∧ l < 2 ^ (n - 1) ∧ ∀ x, x < n → ∀ y, y < n → (decide (bitI l x = 1) = decide (bitI l y = 1) ↔ s x = s y) := by
  have hb := lotOf_bd (fun k => s k != s (n - 1)) (n - 1)
  have hbit : ∀ k, k < n → bitI (lotOf (fun k => s k != s (n - 1)) (n - 1)) k = if (s k != s (n - 1)) = true then 1 else 0 := fun k hk => by
    by_cases e : k = n - 1
    · subst e
      rw [bit_last hb.1 hb.2, if_neg (by simp)]
    · exact lotOf_bit _ _ _ (by omega)
  refine ⟨_, ?_, hb.2, fun x hx y hy => ?_⟩
  · obtain ⟨a, ha, b, hbb, hne⟩ := h
    refine Classical.byContradiction fun hc => ?_
    have h0 : lotOf (fun k => s k != s (n - 1)) (n - 1) = 0 := by omega
    have z : ∀ k, k < n → s k = s (n - 1) := fun k hk => by
      have := hbit k hk
      rw [h0] at this
      have zz : bitI 0 k = 0 := by unfold bitI; simp
      rw [zz] at this
      cases e : (s k != s (n - 1)) with
      | false => simpa using e
      | true => rw [e] at this; simp at this
    exact hne ((z a ha).trans (z b hbb).symm)
  · rw [hbit x hx, hbit y hy]
    cases s x <;> cases s y <;> cases s (n - 1) <;> simp
theorem UpE.congr {n : Nat} {e : Nat → Nat → Int} {s t : Nat → Bool} {l : Int} (h : UpE n e s l) (k : ∀ x, x < n → ∀ y, y < n → (s x = s y ↔ t x = t y)) : UpE n e t l := by
  obtain ⟨x, hx, y, hy, z, hz, w, hw, h1, h2, h3, u1, u2⟩ := h
  exact ⟨x, hx, y, hy, z, hz, w, hw, (k x hx y hy).1 h1, (k z hz w hw).1 h2, fun q => h3 ((k x hx z hz).2 q), u1, u2⟩
theorem iso_up {D : List (List Int)} (hs : spB D = true) {l : Int} (h1 : 1 ≤ l) (h2 : l < 2 ^ (D.length - 1)) : UpE D.length (fun x y => 2 * at2 D x y) (fun k => decide (bitI l k = 1)) (isoI D l) := by
  have hf := spB_far hs
  have hn := (spB_len hs).1
  obtain ⟨k, hk, hb⟩ := lot_some h1 h2
  have hl := bit_last (n := D.length - 1) (by omega) h2
  have hin : IsoS D l (gap4 D k k (D.length - 1) (D.length - 1)) := ⟨k, by omega, k, by omega, D.length - 1, by omega, D.length - 1, by omega, ⟨hb, hb, hl, hl⟩, rfl⟩
  obtain ⟨a1, a2, a3⟩ := isoI_least D l
  have hle : gap4 D k k (D.length - 1) (D.length - 1) ≤ 120 := (gap4_bd hf (by omega) (by omega) (by omega) (by omega)).2
  have c1 := a2 _ hin
  rcases a3 with a3 | ⟨a, ha, b, hb', c, hc, e, he, ⟨q1, q2, q3, q4⟩, hx⟩
  · omega
  · refine ⟨a, ha, b, hb', c, hc, e, he, (by show decide (bitI l a = 1) = decide (bitI l b = 1); rw [q1, q2]), (by show decide (bitI l c = 1) = decide (bitI l e = 1); rw [q3, q4]), (by show decide (bitI l a = 1) ≠ decide (bitI l c = 1); rw [q1, q3]; decide), ?_⟩
    have : isoI D l = max (max (at2 D a b + at2 D c e) (at2 D a c + at2 D b e)) (at2 D a e + at2 D b c) - (at2 D a b + at2 D c e) := hx
    show 2 * at2 D a c + 2 * at2 D b e ≤ 2 * at2 D a b + 2 * at2 D c e + 2 * isoI D l ∧ 2 * at2 D a e + 2 * at2 D b c ≤ 2 * at2 D a b + 2 * at2 D c e + 2 * isoI D l
    omega
theorem splL_mem (f : Nat → Int) (N : Nat) (k : Nat) (h1 : 1 ≤ k) (h2 : k < N) (hf : 0 < f k) : [(k : Int), f k] ∈ splL f N := by
  have key : ∀ g i R, (1 ≤ i → [(k : Int), f k] ∈ R ∨ (i ≤ k ∧ k < i + g) → [(k : Int), f k] ∈ splG f g i R) := by
    intro g
    induction g with
    | zero => intro i R _ h; rcases h with h | h
              · exact h
              · omega
    | succ g ih =>
      intro i R hi h
      by_cases q : 0 < f i
      · rw [splG_yes q]
        refine ih _ _ (by omega) ?_
        rcases h with h | ⟨h, h'⟩
        · exact .inl (List.mem_append_left _ h)
        · by_cases e : i = k
          · subst e; exact .inl (List.mem_append_right _ (List.mem_singleton.2 rfl))
          · exact .inr ⟨by omega, by omega⟩
      · rw [splG_no q]
        refine ih _ _ (by omega) ?_
        rcases h with h | ⟨h, h'⟩
        · exact .inl h
        · by_cases e : i = k
          · subst e; exact absurd hf q
          · exact .inr ⟨by omega, by omega⟩
  exact key (N - 1) 1 [] (Nat.le_refl _) (.inr ⟨h1, by omega⟩)
theorem rest_parts {D : List (List Int)} (hs : spB D = true) : (∀ p ∈ (splD D).map asS, 0 < p.2 ∧ IdxE D.length (fun x y => 2 * at2 D x y) p.1 p.2) ∧ ((splD D).map asS).Pairwise (fun p q => NeE D.length p.1 q.1) := by
  have n1 := (spB_len hs).1
  refine ⟨fun p hp => ?_, ?_⟩
  · obtain ⟨r, hr, rfl⟩ := List.mem_map.1 hp
    obtain ⟨k, k1, k2, rfl, k3⟩ := spl_lots hr
    exact ⟨k3, iso_idx hs k3⟩
  · rw [List.pairwise_map]
    refine (splG_up _ _ (Nat.one_le_two_pow)).imp_of_mem fun {r q} hr hq hlt => ?_
    obtain ⟨k, k1, k2, rfl, k3⟩ := spl_lots hr
    obtain ⟨j, j1, j2, rfl, j3⟩ := spl_lots hq
    have p1 : ((k : Nat) : Int) < 2 ^ (D.length - 1) := by rw [pow_nat]; omega
    have p2 : ((j : Nat) : Int) < 2 ^ (D.length - 1) := by rw [pow_nat]; omega
    have hlt' : (k : Int) < (j : Int) := hlt
    exact lots_ne n1 (show (1 : Int) ≤ (k : Int) by omega) p1 (show (1 : Int) ≤ (j : Int) by omega) p2 (show (k : Int) ≠ (j : Int) by omega)
theorem rest_sub (D : List (List Int)) (x y : Nat) : subL ((splD D).map asS) (fun x y => 2 * at2 D x y) x y = 2 * at2 D x y - divL (splD D) x y := by
  rw [subL_eq, divL_dsum]
theorem rest_up {D : List (List Int)} (hs : spB D = true) (ht : ∀ i, i < D.length → ∀ k, k < D.length → ∀ j, j < D.length → at2 D i k ≤ at2 D i j + at2 D j k) (s : Nat → Bool) (h : ∃ a, a < D.length ∧ ∃ b, b < D.length ∧ s a ≠ s b) :
    UpE D.length (subL ((splD D).map asS) (fun x y => 2 * at2 D x y)) s 0 := by
  obtain ⟨hi, hp⟩ := rest_parts hs
  obtain ⟨l, l1, l2, hl⟩ := lot_of (spB_len hs).1 s h
  have hu := iso_up hs l1 l2
  refine UpE.congr (up_subL (l := isoI D l) _ _ (two_good hs ht) hi hp ?_) hl
  by_cases q : 0 < isoI D l
  · refine .inr ⟨hu, List.mem_map.2 ⟨[l, isoI D l], ?_, rfl⟩⟩
    obtain ⟨k, rfl⟩ : ∃ k : Nat, l = k := ⟨l.toNat, by omega⟩
    rw [pow_nat] at l2
    exact splL_mem (fun k => isoI D k) _ k (by omega) (by omega) q
  · have h0 : isoI D l = 0 := by have := isoI_ge (spB_far hs) l; omega
    rw [h0] at hu
    exact .inl hu
/-- the four-point condition of a space -/
def FourD (D : List (List Int)) : Prop := FourE D.length (at2 D)
theorem div_tree {D : List (List Int)} (hs : spB D = true) (ht : ∀ i, i < D.length → ∀ k, k < D.length → ∀ j, j < D.length → at2 D i k ≤ at2 D i j + at2 D j k) (h4 : FourD D) {a b : Nat} (ha : a < D.length) (hb : b < D.length) : divL (splD D) a b = 2 * at2 D a b := by
  obtain ⟨hi, hp⟩ := rest_parts hs
  have hG := two_good hs ht
  have h4' : FourE D.length (fun x y => 2 * at2 D x y) := fun x hx y hy z hz w hw => by
    have := h4 x hx y hy z hz w hw
    show 2 * at2 D x y + 2 * at2 D z w ≤ max (2 * at2 D x z + 2 * at2 D y w) (2 * at2 D x w + 2 * at2 D y z)
    omega
  have := tree_zero (good_subL _ _ hG hi hp) (four_subL _ _ hG h4' hi hp) (rest_up hs ht) ha hb
  rw [rest_sub] at this
  omega
theorem div_four {D : List (List Int)} (hs : spB D = true) (ht : ∀ i, i < D.length → ∀ k, k < D.length → ∀ j, j < D.length → at2 D i k ≤ at2 D i j + at2 D j k) (h4 : D.length ≤ 4) {a b : Nat} (ha : a < D.length) (hb : b < D.length) : divL (splD D) a b = 2 * at2 D a b := by
  obtain ⟨hi, hp⟩ := rest_parts hs
  have := four_zero h4 (good_subL _ _ (two_good hs ht) hi hp) (rest_up hs ht) ha hb
  rw [rest_sub] at this
  omega
/-- what is divided is at most twice the distance -/
theorem div_le {D : List (List Int)} (hs : spB D = true) (ht : ∀ i, i < D.length → ∀ k, k < D.length → ∀ j, j < D.length → at2 D i k ≤ at2 D i j + at2 D j k) {a b : Nat} (ha : a < D.length) (hb : b < D.length) : divL (splD D) a b ≤ 2 * at2 D a b := by
  obtain ⟨hi, hp⟩ := rest_parts hs
  have := good_nonneg (good_subL _ _ (two_good hs ht) hi hp) ha hb
  rw [rest_sub] at this
  omega
/-- splits of a tree fit together: of four pairs of lots one has no point in common -/
theorem tree_fit {D : List (List Int)} (_hs : spB D = true) (h4 : FourD D) {l m : Int} (hl : 0 < isoI D l) (hm : 0 < isoI D m) (hi : IdxE D.length (fun x y => 2 * at2 D x y) (fun k => decide (bitI l k = 1)) (isoI D l)) (hj : IdxE D.length (fun x y => 2 * at2 D x y) (fun k => decide (bitI m k = 1)) (isoI D m))
    {x y z w : Nat} (hx : x < D.length) (hy : y < D.length) (hz : z < D.length) (hw : w < D.length) (x1 : bitI l x = 1) (x2 : bitI m x = 1) (y1 : bitI l y = 1) (y2 : bitI m y = 0) (z1 : bitI l z = 0) (z2 : bitI m z = 1) (w1 : bitI l w = 0) (w2 : bitI m w = 0)
    (hsym : ∀ i, i < D.length → ∀ k, k < D.length → at2 D i k = at2 D k i) : False := by
  have i1 := hi x hx y hy z hz w hw (by simp only [x1, y1]) (by simp only [z1, w1]) (by simp only [x1, z1]; decide)
  have i2 := hj x hx z hz y hy w hw (by simp only [x2, z2]) (by simp only [y2, w2]) (by simp only [x2, y2]; decide)
  have q := h4 x hx w hw y hy z hz
  have s1 := hsym z hz y hy
  have s2 := hsym w hw y hy
  have s3 := hsym w hw z hz
  have q2 := h4 x hx y hy z hz w hw
  have q3 := h4 x hx z hz y hy w hw
  simp only at i1 i2
  omega
end Go.Proofs.Ytimelegkgaimjaa
