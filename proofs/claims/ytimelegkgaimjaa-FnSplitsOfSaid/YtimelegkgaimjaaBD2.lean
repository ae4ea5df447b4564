/- What is proved: the plain law of splits of a tree: nothing is left behind all splits. No condition. -/
import Derived.Test.YtimelegkgaimjaaBD
namespace Go.Proofs.Ytimelegkgaimjaa
open Go.RowKit

/-- the four-point condition -/
def FourE (n : Nat) (e : Nat → Nat → Int) : Prop := ∀ x, x < n → ∀ y, y < n → ∀ z, z < n → ∀ w, w < n → e x y + e z w ≤ max (e x z + e y w) (e x w + e y z)
/-- s isolates at most l -/
def UpE (n : Nat) (e : Nat → Nat → Int) (s : Nat → Bool) (l : Int) : Prop :=
  ∃ x, x < n ∧ ∃ y, y < n ∧ ∃ z, z < n ∧ ∃ w, w < n ∧ s x = s y ∧ s z = s w ∧ s x ≠ s z ∧ e x z + e y w ≤ e x y + e z w + 2 * l ∧ e x w + e y z ≤ e x y + e z w + 2 * l
/-- how t lies to four points: the three sums less what is taken away -/
theorem quart {e : Nat → Nat → Int} {t : Nat → Bool} {m : Int} (x y z w : Nat) :
    let S := sub1 t m e
    (S x y + S z w = e x y + e z w ∧ S x z + S y w = e x z + e y w ∧ S x w + S y z = e x w + e y z) ∨
    (S x y + S z w = e x y + e z w - m ∧ S x z + S y w = e x z + e y w - m ∧ S x w + S y z = e x w + e y z - m) ∨
    (t x = t y ∧ t z = t w ∧ t x ≠ t z ∧ S x y + S z w = e x y + e z w ∧ S x z + S y w = e x z + e y w - 2 * m ∧ S x w + S y z = e x w + e y z - 2 * m) ∨
    (t x = t z ∧ t y = t w ∧ t x ≠ t y ∧ S x y + S z w = e x y + e z w - 2 * m ∧ S x z + S y w = e x z + e y w ∧ S x w + S y z = e x w + e y z - 2 * m) ∨
    (t x = t w ∧ t y = t z ∧ t x ≠ t y ∧ S x y + S z w = e x y + e z w - 2 * m ∧ S x z + S y w = e x z + e y w - 2 * m ∧ S x w + S y z = e x w + e y z) := by
  intro S
  show _ ∨ _
  simp only [S, sub1]
  cases t x <;> cases t y <;> cases t z <;> cases t w <;> simp <;> omega
theorem four_step {n : Nat} {e : Nat → Nat → Int} (hG : GoodE n e) (h4 : FourE n e) {t : Nat → Bool} {m : Int} (ht : IdxE n e t m) (hm : 0 < m) : FourE n (sub1 t m e) := by
  intro x hx y hy z hz w hw
  have q := h4 x hx y hy z hz w hw
  have s1 := hG.1 z hz y hy
  have s2 := hG.1 w hw y hy
  have s3 := hG.1 w hw z hz
  rcases quart (e := e) (t := t) (m := m) x y z w with ⟨a, b, c⟩ | ⟨a, b, c⟩ | ⟨k1, k2, k3, a, b, c⟩ | ⟨k1, k2, k3, a, b, c⟩ | ⟨k1, k2, k3, a, b, c⟩
  · omega
  · omega
  · have := ht x hx y hy z hz w hw k1 k2 k3
    omega
  · have := ht x hx z hz y hy w hw k1 k2 k3
    omega
  · have := ht x hx w hw y hy z hz k1 k2 k3
    omega
theorem key_five {n : Nat} {e : Nat → Nat → Int} (hG : GoodE n e) {s t : Nat → Bool} {l m : Int} (hs : IdxE n e s l) (ht : IdxE n e t m) (hne : NeE n s t) {x y z w : Nat} (hx : x < n) (hy : y < n) (hz : z < n) (hw : w < n)
    (h1 : s x = s y) (h2 : s z = s w) (h3 : s x ≠ s z) (a : t x = t y) (b : t z = t w) (c : t x ≠ t z) : e x y + e z w + 2 * l + 2 * m ≤ max (e x z + e y w) (e x w + e y z) := by
  obtain ⟨hsym, _, _⟩ := hG
  obtain ⟨p, hp, hpp⟩ := hne x hx
  rcases hpp with ⟨k1, k2⟩ | ⟨k1, k2⟩
  · have k3 : t p = t z := bool3 (Ne.symm c) k2
    have i1 := hs x hx p hp z hz w hw k1.symm h2 h3
    have i2 := hs y hy p hp z hz w hw (by rw [← h1, k1]) h2 (by rw [← h1]; exact h3)
    have i3 := ht x hx y hy z hz p hp a k3.symm c
    have i4 := ht x hx y hy w hw p hp a (by rw [k3, b]) (by rw [← b]; exact c)
    rw [hsym p hp w hw, hsym p hp z hz] at i1 i2
    exact five i1 i2 i3 i4
  · have k3 : s p = s z := bool3 (Ne.symm h3) k1
    have i1 := ht x hx p hp z hz w hw k2.symm b c
    have i2 := ht y hy p hp z hz w hw (by rw [← a, k2]) b (by rw [← a]; exact c)
    have i3 := hs x hx y hy z hz p hp h1 k3.symm h3
    have i4 := hs x hx y hy w hw p hp h1 (by rw [k3, h2]) (by rw [← h2]; exact h3)
    rw [hsym p hp w hw, hsym p hp z hz] at i1 i2
    have := five i1 i2 i3 i4
    omega
theorem up_step {n : Nat} {e : Nat → Nat → Int} (hG : GoodE n e) {s t : Nat → Bool} {l m : Int} (hu : UpE n e s l) (hs : IdxE n e s l) (ht : IdxE n e t m) (hl : 0 < l) (hm : 0 < m) (hne : NeE n s t) : UpE n (sub1 t m e) s l := by
  obtain ⟨x, hx, y, hy, z, hz, w, hw, h1, h2, h3, u1, u2⟩ := hu
  refine ⟨x, hx, y, hy, z, hz, w, hw, h1, h2, h3, ?_⟩
  have s1 := hG.1 z hz y hy
  have s2 := hG.1 w hw y hy
  have s3 := hG.1 w hw z hz
  rcases quart (e := e) (t := t) (m := m) x y z w with ⟨a, b, c⟩ | ⟨a, b, c⟩ | ⟨k1, k2, k3, a, b, c⟩ | ⟨k1, k2, k3, a, b, c⟩ | ⟨k1, k2, k3, a, b, c⟩
  · omega
  · omega
  · have := key_five hG hs ht hne hx hy hz hw h1 h2 h3 k1 k2 k3
    omega
  · have := ht x hx z hz y hy w hw k1 k2 k3
    omega
  · have := ht x hx w hw y hy z hz k1 k2 k3
    omega
theorem up_zero {n : Nat} {e : Nat → Nat → Int} (hG : GoodE n e) {s t : Nat → Bool} {m : Int} (hu : UpE n e s 0) (ht : IdxE n e t m) (hm : 0 < m) : UpE n (sub1 t m e) s 0 := by
  obtain ⟨x, hx, y, hy, z, hz, w, hw, h1, h2, h3, u1, u2⟩ := hu
  refine ⟨x, hx, y, hy, z, hz, w, hw, h1, h2, h3, ?_⟩
  have s1 := hG.1 z hz y hy
  have s2 := hG.1 w hw y hy
  have s3 := hG.1 w hw z hz
  rcases quart (e := e) (t := t) (m := m) x y z w with ⟨a, b, c⟩ | ⟨a, b, c⟩ | ⟨k1, k2, k3, a, b, c⟩ | ⟨k1, k2, k3, a, b, c⟩ | ⟨k1, k2, k3, a, b, c⟩
  · omega
  · omega
  · omega
  · have := ht x hx z hz y hy w hw k1 k2 k3
    omega
  · have := ht x hx w hw y hy z hz k1 k2 k3
    omega
theorem up_self {n : Nat} {e : Nat → Nat → Int} {s : Nat → Bool} {l : Int} (hu : UpE n e s l) : UpE n (sub1 s l e) s 0 := by
  obtain ⟨x, hx, y, hy, z, hz, w, hw, h1, h2, h3, u1, u2⟩ := hu
  refine ⟨x, hx, y, hy, z, hz, w, hw, h1, h2, h3, ?_⟩
  have a1 : sub1 s l e x y = e x y := if_pos h1
  have a2 : sub1 s l e z w = e z w := if_pos h2
  have a3 : sub1 s l e x z = e x z - l := if_neg h3
  have a4 : sub1 s l e y w = e y w - l := if_neg (by rw [← h1, ← h2]; exact h3)
  have a5 : sub1 s l e x w = e x w - l := if_neg (by rw [← h2]; exact h3)
  have a6 : sub1 s l e y z = e y z - l := if_neg (by rw [← h1]; exact h3)
  rw [a1, a2, a3, a4, a5, a6]
  omega
theorem four_subL {n : Nat} : ∀ (L : List ((Nat → Bool) × Int)) (e : Nat → Nat → Int), GoodE n e → FourE n e → (∀ p ∈ L, 0 < p.2 ∧ IdxE n e p.1 p.2) → L.Pairwise (fun p q => NeE n p.1 q.1) → FourE n (subL L e)
  | [], _, _, h, _, _ => h
  | p :: L, e, h, h4, hi, hp => by
    obtain ⟨h1, h2⟩ := hi p (List.mem_cons_self ..)
    rw [List.pairwise_cons] at hp
    rw [subL]
    refine four_subL L _ (good_step h h2 h1) (four_step h h4 h2 h1) (fun q hq => ?_) hp.2
    obtain ⟨k1, k2⟩ := hi q (List.mem_cons_of_mem _ hq)
    exact ⟨k1, idx_step h k2 h2 k1 h1 (hp.1 q hq).symm⟩
theorem up_subL {n : Nat} {s : Nat → Bool} {l : Int} : ∀ (L : List ((Nat → Bool) × Int)) (e : Nat → Nat → Int), GoodE n e → (∀ p ∈ L, 0 < p.2 ∧ IdxE n e p.1 p.2) → L.Pairwise (fun p q => NeE n p.1 q.1) →
    (UpE n e s 0 ∨ (UpE n e s l ∧ (s, l) ∈ L)) → UpE n (subL L e) s 0
  | [], _, _, _, _, h => by
    rcases h with h | ⟨_, h⟩
    · exact h
    · cases h
  | p :: L, e, h, hi, hp, hu => by
    obtain ⟨h1, h2⟩ := hi p (List.mem_cons_self ..)
    rw [List.pairwise_cons] at hp
    rw [subL]
    refine up_subL (l := l) L _ (good_step h h2 h1) (fun q hq => ?_) hp.2 ?_
    · obtain ⟨k1, k2⟩ := hi q (List.mem_cons_of_mem _ hq)
      exact ⟨k1, idx_step h k2 h2 k1 h1 (hp.1 q hq).symm⟩
    · rcases hu with hu | ⟨hu, hm⟩
      · exact .inl (up_zero h hu h2 h1)
      · rcases List.mem_cons.1 hm with e1 | hm
        · subst e1; exact .inl (up_self hu)
        · obtain ⟨k1, k2⟩ := hi _ (List.mem_cons_of_mem _ hm)
          exact .inr ⟨up_step h hu k2 h2 k1 h1 (hp.1 _ hm).symm, hm⟩
/-- a point farthest from r -/
theorem farthest (f : Nat → Int) : ∀ n : Nat, 0 < n → ∃ x, x < n ∧ ∀ y, y < n → f y ≤ f x
  | 1, _ => ⟨0, by omega, fun y hy => by have : y = 0 := by omega
                                         subst this; omega⟩
  | n + 2, _ => by
    obtain ⟨x, hx, h⟩ := farthest f (n + 1) (by omega)
    by_cases q : f x ≤ f (n + 1)
    · refine ⟨n + 1, by omega, fun y hy => ?_⟩
      by_cases e : y = n + 1
      · subst e; omega
      · have := h y (by omega); omega
    · refine ⟨x, by omega, fun y hy => ?_⟩
      by_cases e : y = n + 1
      · subst e; omega
      · exact h y (by omega)
/-- the class of x: what its split's bound says -/
theorem class_up {n : Nat} {e : Nat → Nat → Int} (hG : GoodE n e) {x : Nat} (hx : x < n) (hu : UpE n e (fun z => decide (e x z = 0)) 0) : ∃ u, u < n ∧ ∃ v, v < n ∧ 0 < e x u ∧ 0 < e x v ∧ e x u + e x v ≤ e u v := by
  obtain ⟨hsym, hz0, htri⟩ := hG
  have nn : ∀ p, p < n → ∀ q, q < n → 0 ≤ e p q := fun p hp q hq => good_nonneg ⟨hsym, hz0, htri⟩ hp hq
  obtain ⟨a, ha, b, hb, c, hc, d, hd, h1, h2, h3, u1, u2⟩ := hu
  have g : ∀ p, p < n → ∀ q, q < n → e x p = 0 → e p q = e x q := fun p hp q hq h => by
    have a1 := htri x hx q hq p hp
    have a2 := htri p hp q hq x hx
    have a3 := hsym p hp x hx
    omega
  simp only [decide_eq_decide] at h1 h2
  by_cases k : e x a = 0
  · have kb := h1.1 k
    have kc : ¬ e x c = 0 := fun q => h3 (by show decide (e x a = 0) = decide (e x c = 0); rw [decide_eq_true k, decide_eq_true q])
    have kd : ¬ e x d = 0 := fun q => kc (h2.2 q)
    have := nn x hx c hc
    have := nn x hx d hd
    have q1 := g a ha b hb k
    have q2 := g a ha c hc k
    have q3 := g b hb d hd kb
    exact ⟨c, hc, d, hd, by omega, by omega, by omega⟩
  · have kb : ¬ e x b = 0 := fun q => k (h1.2 q)
    have kc : e x c = 0 := Classical.byContradiction fun q => h3 (by show decide (e x a = 0) = decide (e x c = 0); rw [decide_eq_false k, decide_eq_false q])
    have kd := h2.1 kc
    have := nn x hx a ha
    have := nn x hx b hb
    have q1 := g c hc d hd kc
    have q2 := g c hc a ha kc
    have q3 := g d hd b hb kd
    have q4 := hsym a ha c hc
    have q5 := hsym b hb d hd
    exact ⟨a, ha, b, hb, by omega, by omega, by omega⟩
/-- where each split isolates nothing, a tree is one point -/
theorem tree_zero {n : Nat} {e : Nat → Nat → Int} (hG : GoodE n e) (h4 : FourE n e) (hu : ∀ s : Nat → Bool, (∃ a, a < n ∧ ∃ b, b < n ∧ s a ≠ s b) → UpE n e s 0) {r b : Nat} (hr : r < n) (hb : b < n) : e r b = 0 := by
  refine Classical.byContradiction fun hne => ?_
  have hpos : 0 < e r b := by have := good_nonneg hG hr hb; omega
  obtain ⟨x, hx, hmax⟩ := farthest (e r) n (by omega)
  have hrx := hmax b hb
  obtain ⟨u, hu', v, hv, p1, p2, p3⟩ := class_up hG hx (hu _ ⟨x, hx, r, hr, by
    rw [decide_eq_true (hG.2.1 x hx), decide_eq_false (by rw [hG.1 x hx r hr]; omega)]; simp⟩)
  have q := h4 r hr x hx u hu' v hv
  have m1 := hmax u hu'
  have m2 := hmax v hv
  omega
end Go.Proofs.Ytimelegkgaimjaa
