/- What is proved: the plain law of splits of at most four points: nothing is left behind all splits. No condition. -/
import Derived.Test.YtimelegkgaimjaaBD2
namespace Go.Proofs.Ytimelegkgaimjaa
open Go.RowKit
/-- of two lots of two points each -/
theorem up_two {n : Nat} {e : Nat → Nat → Int} (hsym : ∀ x, x < n → ∀ y, y < n → e x y = e y x) {r x c d : Nat} (all : ∀ p, p < n → p = r ∨ p = x ∨ p = c ∨ p = d) (_hr : r < n) (_hx : x < n) (_hc : c < n) (_hd : d < n)
    (h : UpE n e (fun k => decide (k = r ∨ k = c)) 0) : ∃ p, (p = r ∨ p = c) ∧ ∃ q, (q = r ∨ q = c) ∧ ∃ i, (i = x ∨ i = d) ∧ ∃ j, (j = x ∨ j = d) ∧ e p i + e q j ≤ e p q + e i j ∧ e p j + e q i ≤ e p q + e i j := by
  obtain ⟨p, hp, q, hq, i, hi, j, hj, h1, h2, h3, k1, k2⟩ := h
  simp only [decide_eq_decide, ne_eq] at h1 h2 h3
  by_cases hpc : p = r ∨ p = c
  · have hqc : q = r ∨ q = c := h1.1 hpc
    have hic : ¬ (i = r ∨ i = c) := fun k => h3 ⟨fun _ => k, fun _ => hpc⟩
    have hjc : ¬ (j = r ∨ j = c) := fun k => hic (h2.2 k)
    have ai := all i hi
    have aj := all j hj
    exact ⟨p, hpc, q, hqc, i, by omega, j, by omega, by omega, by omega⟩
  · have hqc : ¬ (q = r ∨ q = c) := fun k => hpc (h1.2 k)
    have hic : i = r ∨ i = c := Classical.byContradiction fun k => h3 ⟨fun k' => absurd k' hpc, fun k' => absurd k' k⟩
    have hjc : j = r ∨ j = c := h2.1 hic
    have ap := all p hp
    have aq := all q hq
    have s1 := hsym p hp i hi
    have s2 := hsym q hq j hj
    have s3 := hsym p hp j hj
    have s4 := hsym q hq i hi
    exact ⟨i, hic, j, hjc, p, by omega, q, by omega, by omega, by omega⟩
set_option maxHeartbeats 8000000 in
theorem four_zero {n : Nat} (hn : n ≤ 4) {e : Nat → Nat → Int} (hG : GoodE n e) (hu : ∀ s : Nat → Bool, (∃ a, a < n ∧ ∃ b, b < n ∧ s a ≠ s b) → UpE n e s 0) {a b : Nat} (ha : a < n) (hb : b < n) : e a b = 0 := by
  refine Classical.byContradiction fun hne => ?_
  have hpos : 0 < e a b := by have := good_nonneg hG ha hb; omega
  -- the two points that are farthest from each other
  obtain ⟨r, x, hr, hx, hmax⟩ : ∃ r x, r < n ∧ x < n ∧ ∀ p, p < n → ∀ q, q < n → e p q ≤ e r x := by
    have hf : ∀ p, ∃ q, q < n ∧ ∀ y, y < n → e p y ≤ e p q := fun p => farthest (e p) n (by omega)
    obtain ⟨r, hr, h⟩ := farthest (fun p => e p (Classical.choose (hf p))) n (by omega)
    obtain ⟨h1, h2⟩ := Classical.choose_spec (hf r)
    exact ⟨r, _, hr, h1, fun p hp q hq => Int.le_trans ((Classical.choose_spec (hf p)).2 q hq) (h p hp)⟩
  have hrx := hmax a ha b hb
  obtain ⟨hsym, hz0, htri⟩ := id hG
  have nn : ∀ p, p < n → ∀ q, q < n → 0 ≤ e p q := fun p hp q hq => good_nonneg hG hp hq
  have s0 := hsym x hx r hr
  obtain ⟨u, hu', v, hv, p1, p2, p3⟩ := class_up hG hx (hu _ ⟨x, hx, r, hr, by rw [decide_eq_true (hz0 x hx), decide_eq_false (by omega)]; simp⟩)
  obtain ⟨y, hy, z, hz, q1, q2, q3⟩ := class_up hG hr (hu _ ⟨r, hr, x, hx, by rw [decide_eq_true (hz0 r hr), decide_eq_false (by omega)]; simp⟩)
  have ux : u ≠ x := fun k => by subst k; have := hz0 u hx; omega
  have vx : v ≠ x := fun k => by subst k; have := hz0 v hx; omega
  have uv : u ≠ v := fun k => by subst k; have := hz0 u hu'; omega
  have ur : u ≠ r := fun k => by subst k; have := hmax u hu' v hv; omega
  have vr : v ≠ r := fun k => by subst k; have := hmax u hu' v hv; omega
  have yr : y ≠ r := fun k => by subst k; have := hz0 y hr; omega
  have zr : z ≠ r := fun k => by subst k; have := hz0 z hr; omega
  have yz : y ≠ z := fun k => by subst k; have := hz0 y hy; omega
  have yx : y ≠ x := fun k => by subst k; have := hmax y hy z hz; omega
  have zx : z ≠ x := fun k => by subst k; have := hmax y hy z hz; omega
  have rx : r ≠ x := fun k => by subst k; have := hz0 r hr; omega
  have hyz : e r u + e r v ≤ e u v := by
    rcases (show (y = u ∧ z = v) ∨ (y = v ∧ z = u) by omega) with ⟨k1, k2⟩ | ⟨k1, k2⟩
    · rw [k1, k2] at q3; exact q3
    · rw [k1, k2] at q3; rw [hsym u hu' v hv]; omega
  have t1 := htri r hr x hx u hu'
  have t2 := htri r hr x hx v hv
  have m1 := hmax u hu' v hv
  have c1 := hsym u hu' x hx
  have c2 := hsym v hv x hx
  have c3 := hsym u hu' r hr
  have c4 := hsym v hv r hr
  have c5 := hsym v hv u hu'
  have z1 := hz0 r hr
  have z2 := hz0 x hx
  have z3 := hz0 u hu'
  have z4 := hz0 v hv
  have all : ∀ p, p < n → p = r ∨ p = x ∨ p = u ∨ p = v := fun p hp => by omega
  by_cases hb0 : 0 < e r v
  · obtain ⟨p, hp, q, hq, i, hi, j, hj, k1, k2⟩ := up_two hsym (r := r) (x := x) (c := u) (d := v) all hr hx hu' hv (hu (fun k => decide (k = r ∨ k = u)) ⟨r, hr, x, hx, by rw [decide_eq_true (.inl rfl), decide_eq_false (by omega)]; simp⟩)
    clear all hu hmax htri hsym nn
    rcases hp with rfl | rfl <;> rcases hq with rfl | rfl <;> rcases hi with rfl | rfl <;> rcases hj with rfl | rfl <;> omega
  · obtain ⟨p, hp, q, hq, i, hi, j, hj, k1, k2⟩ := up_two hsym (r := r) (x := x) (c := v) (d := u) (fun p hp => by have := all p hp; omega) hr hx hv hu' (hu (fun k => decide (k = r ∨ k = v)) ⟨r, hr, x, hx, by rw [decide_eq_true (.inl rfl), decide_eq_false (by omega)]; simp⟩)
    clear all hu hmax htri hsym nn
    rcases hp with rfl | rfl <;> rcases hq with rfl | rfl <;> rcases hi with rfl | rfl <;> rcases hj with rfl | rfl <;> omega
end Go.Proofs.Ytimelegkgaimjaa
