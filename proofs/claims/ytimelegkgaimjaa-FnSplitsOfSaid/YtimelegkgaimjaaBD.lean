/- What is proved: the plain law of splits: what is left of a space behind all its splits is no space broken (Bandelt and Dress). No condition. -/
import Derived.Test.YtimelegkgaimjaaDiv
namespace Go.Proofs.Ytimelegkgaimjaa
open Go.RowKit

/-- the distances less l for each two points that s parts -/
def sub1 (s : Nat → Bool) (l : Int) (e : Nat → Nat → Int) (x y : Nat) : Int := if s x = s y then e x y else e x y - l
/-- a space, perhaps with different points in one place -/
def GoodE (n : Nat) (e : Nat → Nat → Int) : Prop :=
  (∀ x, x < n → ∀ y, y < n → e x y = e y x) ∧ (∀ x, x < n → e x x = 0) ∧ (∀ x, x < n → ∀ y, y < n → ∀ z, z < n → e x y ≤ e x z + e z y)
/-- s isolates at least l -/
def IdxE (n : Nat) (e : Nat → Nat → Int) (s : Nat → Bool) (l : Int) : Prop :=
  ∀ x, x < n → ∀ y, y < n → ∀ z, z < n → ∀ w, w < n → s x = s y → s z = s w → s x ≠ s z → e x y + e z w + 2 * l ≤ max (e x z + e y w) (e x w + e y z)
/-- two splits are not the same -/
def NeE (n : Nat) (s t : Nat → Bool) : Prop := ∀ x, x < n → ∃ p, p < n ∧ ((s p = s x ∧ t p ≠ t x) ∨ (s p ≠ s x ∧ t p = t x))
theorem NeE.symm {n : Nat} {s t : Nat → Bool} (h : NeE n s t) : NeE n t s := fun x hx => by
  obtain ⟨p, hp, h1⟩ := h x hx
  exact ⟨p, hp, h1.elim (fun k => .inr ⟨k.2, k.1⟩) fun k => .inl ⟨k.2, k.1⟩⟩
theorem five {xy zw xz yw xw yz xp yp zp wp l m : Int} (h1 : xp + zw + 2 * l ≤ max (xz + wp) (xw + zp)) (h2 : yp + zw + 2 * l ≤ max (yz + wp) (yw + zp)) (h3 : xy + zp + 2 * m ≤ max (xz + yp) (xp + yz)) (h4 : xy + wp + 2 * m ≤ max (xw + yp) (xp + yw)) :
    xy + zw + 2 * l + 2 * m ≤ max (xz + yw) (xw + yz) := by omega
theorem bool3 {a b c : Bool} (h1 : a ≠ b) (h2 : c ≠ b) : c = a := by cases a <;> cases b <;> cases c <;> simp_all
theorem idx_step {n : Nat} {e : Nat → Nat → Int} (hG : GoodE n e) {s t : Nat → Bool} {l m : Int} (hs : IdxE n e s l) (ht : IdxE n e t m) (_hl : 0 < l) (hm : 0 < m) (hne : NeE n s t) : IdxE n (sub1 t m e) s l := by
  intro x hx y hy z hz w hw h1 h2 h3
  have q := hs x hx y hy z hz w hw h1 h2 h3
  obtain ⟨hsym, _, _⟩ := hG
  unfold sub1
  by_cases a : t x = t y
  · by_cases b : t z = t w
    · by_cases c : t x = t z
      · rw [if_pos a, if_pos b, if_pos c, if_pos (by rw [← a, c, b]), if_pos (by rw [c, b]), if_pos (by rw [← a, c])]; exact q
      · rw [if_pos a, if_pos b, if_neg c, if_neg (by rw [← a, ← b]; exact c), if_neg (by rw [← b]; exact c), if_neg (by rw [← a]; exact c)]
        have key : e x y + e z w + 2 * l + 2 * m ≤ max (e x z + e y w) (e x w + e y z) := by
          obtain ⟨p, hp, hpp⟩ := hne x hx
          rcases hpp with ⟨k1, k2⟩ | ⟨k1, k2⟩
          · have k3 : t p = t z := bool3 (Ne.symm c) k2
            have i1 := hs x hx p hp z hz w hw k1.symm h2 h3
            have i2 := hs y hy p hp z hz w hw (by rw [← h1, k1]) h2 (by rw [← h1]; exact h3)
            have i3 := ht x hx y hy z hz p hp a k3.symm c
            have i4 := ht x hx y hy w hw p hp a (by rw [k3, b]) (by rw [← b]; exact c)
            rw [hsym p hp w hw, hsym p hp z hz] at i1 i2
            exact five i1 i2 i3 i4
          · have k3 : s p = s z := bool3 (Ne.symm h3) k1
            have i1 := ht x hx p hp z hz w hw k2.symm b c
            have i2 := ht y hy p hp z hz w hw (by rw [← a, k2]) b (by rw [← a]; exact c)
            have i3 := hs x hx y hy z hz p hp h1 k3.symm h3
            have i4 := hs x hx y hy w hw p hp h1 (by rw [k3, h2]) (by rw [← h2]; exact h3)
            rw [hsym p hp w hw, hsym p hp z hz] at i1 i2
            have := five i1 i2 i3 i4
            omega
        omega
    · by_cases c : t x = t z
      · rw [if_pos a, if_neg b, if_pos c, if_neg (by rw [← a, c]; exact b), if_neg (by rw [c]; exact b), if_pos (by rw [← a, c])]; omega
      · have d : t x = t w := bool3 (Ne.symm b) c
        rw [if_pos a, if_neg b, if_neg c, if_pos (by rw [← a, d]), if_pos d, if_neg (by rw [← a]; exact c)]; omega
  · by_cases b : t z = t w
    · by_cases c : t x = t z
      · rw [if_neg a, if_pos b, if_pos c, if_neg (by rw [← b, ← c]; exact Ne.symm a), if_pos (by rw [c, b]), if_neg (by rw [← c]; exact Ne.symm a)]; omega
      · have d : t y = t z := bool3 (Ne.symm c) (Ne.symm a)
        rw [if_neg a, if_pos b, if_neg c, if_pos (by rw [d, b]), if_neg (by rw [← b]; exact c), if_pos d]; omega
    · by_cases c : t x = t z
      · have d : t y = t w := bool3 (by rw [← c] at b; exact Ne.symm b) (Ne.symm a)
        rw [if_neg a, if_neg b, if_pos c, if_pos d, if_neg (by rw [← d]; exact a), if_neg (by rw [← c]; exact Ne.symm a)]; omega
      · have d : t x = t w := bool3 (Ne.symm b) c
        have f : t y = t z := bool3 (Ne.symm c) (Ne.symm a)
        rw [if_neg a, if_neg b, if_neg c, if_neg (by rw [← d]; exact Ne.symm a), if_pos d, if_pos f]; omega
theorem good_step {n : Nat} {e : Nat → Nat → Int} (hG : GoodE n e) {t : Nat → Bool} {m : Int} (ht : IdxE n e t m) (_hm : 0 < m) : GoodE n (sub1 t m e) := by
  obtain ⟨hsym, hz0, htri⟩ := hG
  refine ⟨fun x hx y hy => ?_, fun x hx => ?_, fun x hx y hy z hz => ?_⟩
  · unfold sub1
    by_cases a : t x = t y
    · rw [if_pos a, if_pos a.symm, hsym x hx y hy]
    · rw [if_neg a, if_neg (Ne.symm a), hsym x hx y hy]
  · unfold sub1; rw [if_pos rfl]; exact hz0 x hx
  · have q := htri x hx y hy z hz
    unfold sub1
    by_cases a : t x = t y
    · by_cases b : t x = t z
      · rw [if_pos a, if_pos b, if_pos (by rw [← b, a])]; exact q
      · rw [if_pos a, if_neg b, if_neg (by rw [← a]; exact Ne.symm b)]
        have i := ht x hx y hy z hz z hz a rfl b
        rw [hz0 z hz, hsym y hy z hz] at i
        omega
    · by_cases b : t x = t z
      · rw [if_neg a, if_pos b, if_neg (by rw [← b]; exact a)]; omega
      · have d : t z = t y := bool3 (Ne.symm a) (Ne.symm b)
        rw [if_neg a, if_neg b, if_pos d]; omega
/-- the splits taken away, one after the other -/
def subL : List ((Nat → Bool) × Int) → (Nat → Nat → Int) → Nat → Nat → Int
  | [], e => e
  | p :: L, e => subL L (sub1 p.1 p.2 e)
def dsum : List ((Nat → Bool) × Int) → Nat → Nat → Int
  | [], _, _ => 0
  | p :: L, x, y => (if p.1 x = p.1 y then 0 else p.2) + dsum L x y
theorem subL_eq : ∀ (L : List ((Nat → Bool) × Int)) (e : Nat → Nat → Int) (x y : Nat), subL L e x y = e x y - dsum L x y
  | [], e, x, y => by simp [subL, dsum]
  | p :: L, e, x, y => by
    rw [subL, subL_eq L, dsum]
    unfold sub1
    split <;> omega
theorem good_subL {n : Nat} : ∀ (L : List ((Nat → Bool) × Int)) (e : Nat → Nat → Int), GoodE n e → (∀ p ∈ L, 0 < p.2 ∧ IdxE n e p.1 p.2) → L.Pairwise (fun p q => NeE n p.1 q.1) → GoodE n (subL L e)
  | [], _, h, _, _ => h
  | p :: L, e, h, hi, hp => by
    obtain ⟨h1, h2⟩ := hi p (List.mem_cons_self ..)
    rw [List.pairwise_cons] at hp
    rw [subL]
    refine good_subL L _ (good_step h h2 h1) (fun q hq => ?_) hp.2
    obtain ⟨k1, k2⟩ := hi q (List.mem_cons_of_mem _ hq)
    exact ⟨k1, idx_step h k2 h2 k1 h1 (hp.1 q hq).symm⟩

/-- a row (lot, what it isolates) as a split -/
def asS (r : List Int) : (Nat → Bool) × Int := (fun k => decide (bitI (ix r 0) k = 1), ix r 1)
theorem bit_dec {l : Int} {a b : Nat} : (decide (bitI l a = 1) = decide (bitI l b = 1)) ↔ bitI l a = bitI l b := by
  rcases bitI_01 l a with h | h <;> rcases bitI_01 l b with k | k <;> simp [h, k]
theorem divS_dsum (R : List (List Int)) (a b : Nat) : ∀ g i s, i + g = R.length → divS R a b g i s = s + dsum ((R.drop i).map asS) a b
  | 0, i, s, h => by rw [List.drop_eq_nil_of_le (by omega)]; simp [divS, itR, dsum]
  | g + 1, i, s, h => by
    have hi : i < R.length := by omega
    rw [List.drop_eq_getElem_cons hi, List.map_cons, dsum]
    have er : R[i] = row R i := (row_of hi).symm
    rw [er]
    show divS R a b (g + 1) i s = s + ((if (decide (bitI (ix (row R i) 0) a = 1) = decide (bitI (ix (row R i) 0) b = 1)) then 0 else ix (row R i) 1) + dsum ((R.drop (i + 1)).map asS) a b)
    by_cases q : bitI (ix (row R i) 0) a = bitI (ix (row R i) 0) b
    · rw [divS_eq (l := ix (row R i) 0) rfl q, divS_dsum R a b g (i + 1) s (by omega), if_pos (bit_dec.2 q)]; omega
    · rw [divS_ne (l := ix (row R i) 0) (v := ix (row R i) 1) rfl rfl q, divS_dsum R a b g (i + 1) _ (by omega), if_neg (fun k => q (bit_dec.1 k))]; omega
theorem divL_dsum (R : List (List Int)) (a b : Nat) : divL R a b = dsum (R.map asS) a b := by
  have := divS_dsum R a b R.length 0 0 (by omega)
  rw [List.drop_zero] at this
  unfold divL
  omega
theorem bits_ext : ∀ (m : Nat) (l k : Int), 0 ≤ l → 0 ≤ k → l < 2 ^ m → k < 2 ^ m → (∀ i, i < m → bitI l i = bitI k i) → l = k
  | 0, l, k, h1, h2, h3, h4, _ => by simp at h3 h4; omega
  | m + 1, l, k, h1, h2, h3, h4, h => by
    rw [Int.pow_succ] at h3 h4
    have h0 := h 0 (by omega)
    unfold bitI at h0
    simp at h0
    have := bits_ext m (l / 2) (k / 2) (by omega) (by omega) (by omega) (by omega) fun i hi => by
      have := h (i + 1) (by omega)
      unfold bitI at this ⊢
      rw [Int.pow_succ, Int.mul_comm, ← Int.ediv_ediv_of_nonneg (by decide), ← Int.ediv_ediv_of_nonneg (by decide)] at this
      exact this
    omega
theorem splG_up (f : Nat → Int) (N : Nat) (_hN : 1 ≤ N) : (splL f N).Pairwise (fun r q => ix r 0 < ix q 0) := by
  have := itR_inv (f := fun k R => if 0 < f k then R ++ [[(k : Int), f k]] else R) (fun j (R : List (List Int)) => R.Pairwise (fun r q => ix r 0 < ix q 0) ∧ ∀ r ∈ R, ix r 0 < j) (N - 1) 1 [] ⟨List.Pairwise.nil, fun r hr => by cases hr⟩ fun j R _ _ h => by
    obtain ⟨h1, h2⟩ := h
    by_cases q : 0 < f j
    · rw [if_pos q]
      refine ⟨?_, fun r hr => ?_⟩
      · rw [List.pairwise_append]
        refine ⟨h1, List.pairwise_singleton _ _, fun r hr x hx => ?_⟩
        rw [List.mem_singleton] at hx
        subst hx
        exact h2 r hr
      · rcases List.mem_append.1 hr with hr | hr
        · have := h2 r hr; omega
        · rw [List.mem_singleton] at hr; subst hr
          show (j : Int) < ((j + 1 : Nat) : Int); omega
    · rw [if_neg q]
      exact ⟨h1, fun r hr => by have := h2 r hr; omega⟩
  exact this.1
theorem lots_ne {n : Nat} {r q : List Int} (hn : 1 ≤ n) (h1 : 1 ≤ ix r 0) (h2 : ix r 0 < 2 ^ (n - 1)) (h3 : 1 ≤ ix q 0) (h4 : ix q 0 < 2 ^ (n - 1)) (hlt : ix r 0 ≠ ix q 0) : NeE n (asS r).1 (asS q).1 := by
  have hb1 := bit_last (n := n - 1) (show 0 ≤ ix r 0 by omega) h2
  have hb2 := bit_last (n := n - 1) (show 0 ≤ ix q 0 by omega) h4
  obtain ⟨p, hp, hpb⟩ : ∃ p, p < n - 1 ∧ bitI (ix r 0) p ≠ bitI (ix q 0) p := by
    refine Classical.byContradiction fun hno => hlt (bits_ext (n - 1) _ _ (by omega) (by omega) h2 h4 fun i hi => ?_)
    exact Classical.byContradiction fun h => hno ⟨i, hi, h⟩
  intro x hx
  show ∃ p, p < n ∧ ((decide (bitI (ix r 0) p = 1) = decide (bitI (ix r 0) x = 1) ∧ decide (bitI (ix q 0) p = 1) ≠ decide (bitI (ix q 0) x = 1)) ∨ (decide (bitI (ix r 0) p = 1) ≠ decide (bitI (ix r 0) x = 1) ∧ decide (bitI (ix q 0) p = 1) = decide (bitI (ix q 0) x = 1)))
  rcases bitI_01 (ix r 0) p with a | a <;> rcases bitI_01 (ix q 0) p with b | b <;> rcases bitI_01 (ix r 0) x with c | c <;> rcases bitI_01 (ix q 0) x with d | d
  all_goals first
    | exact absurd (a.trans b.symm) hpb
    | (refine ⟨p, by omega, ?_⟩; simp [a, b, c, d]; done)
    | (refine ⟨n - 1, by omega, ?_⟩; simp [hb1, hb2, c, d]; done)
/-- the lots of a space as splits -/
theorem spl_lots {D : List (List Int)} {r : List Int} (h : r ∈ splD D) : ∃ k : Nat, 1 ≤ k ∧ k < 2 ^ (D.length - 1) ∧ r = [(k : Int), isoI D k] ∧ 0 < isoI D k :=
  (splL_spec (fun k => isoI D k) (2 ^ (D.length - 1)) (Nat.one_le_two_pow)).2 r h
theorem iso_idx {D : List (List Int)} (hs : spB D = true) {l : Int} (hl : 0 < isoI D l) : IdxE D.length (fun x y => 2 * at2 D x y) (fun k => decide (bitI l k = 1)) (isoI D l) := by
  intro x hx y hy z hz w hw h1 h2 h3
  obtain ⟨_, hle, _⟩ := isoI_least D l
  have h1' := bit_dec.1 h1
  have h2' := bit_dec.1 h2
  have h3' : bitI l x ≠ bitI l z := fun k => h3 (bit_dec.2 k)
  have hc := (farB_parts (spB_far hs)).2.2
  show 2 * at2 D x y + 2 * at2 D z w + 2 * isoI D l ≤ max (2 * at2 D x z + 2 * at2 D y w) (2 * at2 D x w + 2 * at2 D y z)
  rcases bitI_01 l x with a | a <;> rcases bitI_01 l z with b | b
  · exact absurd (a.trans b.symm) h3'
  · have := hle _ ⟨z, hz, w, hw, x, hx, y, hy, ⟨b, h2' ▸ b, a, h1' ▸ a⟩, rfl⟩
    have e1 := (hc z hz x hx).2.2.1
    have e2 := (hc w hw y hy).2.2.1
    have e3 := (hc z hz y hy).2.2.1
    have e4 := (hc w hw x hx).2.2.1
    have : isoI D l ≤ max (max (at2 D z w + at2 D x y) (at2 D z x + at2 D w y)) (at2 D z y + at2 D w x) - (at2 D z w + at2 D x y) := this
    omega
  · have := hle _ ⟨x, hx, y, hy, z, hz, w, hw, ⟨a, h1' ▸ a, b, h2' ▸ b⟩, rfl⟩
    have : isoI D l ≤ max (max (at2 D x y + at2 D z w) (at2 D x z + at2 D y w)) (at2 D x w + at2 D y z) - (at2 D x y + at2 D z w) := this
    omega
  · exact absurd (a.trans b.symm) h3'
theorem two_good {D : List (List Int)} (hs : spB D = true) (ht : ∀ i, i < D.length → ∀ k, k < D.length → ∀ j, j < D.length → at2 D i k ≤ at2 D i j + at2 D j k) : GoodE D.length (fun x y => 2 * at2 D x y) := by
  have hc := (farB_parts (spB_far hs)).2.2
  refine ⟨fun x hx y hy => ?_, fun x hx => ?_, fun x hx y hy z hz => ?_⟩
  · have := (hc x hx y hy).2.2.1; show 2 * at2 D x y = 2 * at2 D y x; omega
  · have := (hc x hx x hx).2.2.2.2 rfl; show 2 * at2 D x x = 0; omega
  · have := ht x hx y hy z hz; show 2 * at2 D x y ≤ 2 * at2 D x z + 2 * at2 D z y; omega
/-- what is left is no space broken -/
theorem rest_good {D : List (List Int)} (hs : spB D = true) (ht : ∀ i, i < D.length → ∀ k, k < D.length → ∀ j, j < D.length → at2 D i k ≤ at2 D i j + at2 D j k) : GoodE D.length (fun x y => 2 * at2 D x y - divL (splD D) x y) := by
  have n1 := (spB_len hs).1
  have e : (fun x y => 2 * at2 D x y - divL (splD D) x y) = subL ((splD D).map asS) (fun x y => 2 * at2 D x y) := by
    funext x y
    rw [subL_eq, divL_dsum]
  rw [e]
  refine good_subL _ _ (two_good hs ht) (fun p hp => ?_) ?_
  · obtain ⟨r, hr, rfl⟩ := List.mem_map.1 hp
    obtain ⟨k, k1, k2, rfl, k3⟩ := spl_lots hr
    exact ⟨k3, iso_idx hs k3⟩
  · rw [List.pairwise_map]
    refine (splG_up _ _ (Nat.one_le_two_pow)).imp_of_mem fun {r q} hr hq hlt => ?_
    obtain ⟨k, k1, k2, rfl, k3⟩ := spl_lots hr
    obtain ⟨j, j1, j2, rfl, j3⟩ := spl_lots hq
    have p1 : ((k : Nat) : Int) < 2 ^ (D.length - 1) := by rw [pow_nat]; omega
    have p2 : ((j : Nat) : Int) < 2 ^ (D.length - 1) := by rw [pow_nat]; omega
    have hlt' : (k : Int) < (j : Int) := hlt
    exact lots_ne n1 (show (1 : Int) ≤ (k : Int) by omega) p1 (show (1 : Int) ≤ (j : Int) by omega) p2 (show (k : Int) ≠ (j : Int) by omega)
theorem good_nonneg {n : Nat} {e : Nat → Nat → Int} (h : GoodE n e) {x y : Nat} (hx : x < n) (hy : y < n) : 0 ≤ e x y := by
  obtain ⟨h1, h2, h3⟩ := h
  have a := h3 x hx x hx y hy
  rw [h2 x hx, h1 y hy x hx] at a
  omega
end Go.Proofs.Ytimelegkgaimjaa
