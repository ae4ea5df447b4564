/- What is proved: impl.NetOf and spec.NetOf return the same net. No condition. -/
import Derived.Test.YtjaigidlpfdfiaaAround
import Derived.Test.YtjaigidlpfdfiaaOnes
namespace Go.Proofs.Ytjaigidlpfdfiaa
open Go.RowKit
/-- all points are around a set -/
def okN (D : List (List Int)) (f : Int) (s : Nat) : Bool := decide (arI D s f = 2 ^ D.length - 1)
def netA (D : List (List Int)) (f : Int) : Nat → Nat → Nat → Nat := itR (fun s b => if okN D f s = true ∧ popI s < popI b then s else b)
def netS (D : List (List Int)) (f : Int) : Nat → Nat → Int → Int := itR (fun s b => if okN D f s = true ∧ (b < 0 ∨ popI s < popI b) then (s : Int) else b)
def netN (D : List (List Int)) (f : Int) : Nat := netA D f (2 ^ D.length - 1) 1 (2 ^ D.length - 1)
theorem pop_less : ∀ n : Fin 7, ∀ s : Fin 64, s.val + 1 < 2 ^ n.val → popI (s.val : Int) < popI ((2 ^ n.val - 1 : Nat) : Int) := by decide +kernel
theorem pow_n {n : Nat} (h : n ≤ 6) : 1 ≤ 2 ^ n ∧ 2 ^ n ≤ 64 := by
  rcases (show n = 0 ∨ n = 1 ∨ n = 2 ∨ n = 3 ∨ n = 4 ∨ n = 5 ∨ n = 6 by omega) with rfl | rfl | rfl | rfl | rfl | rfl | rfl <;> decide
theorem pow_cast (n : Nat) : ((2 ^ n - 1 : Nat) : Int) = 2 ^ n - 1 := by
  have := Nat.one_le_two_pow (n := n)
  have e : ((2 ^ n : Nat) : Int) = 2 ^ n := by simp
  omega
theorem lotOf_full {p : Nat → Bool} : ∀ {m : Nat}, (∀ k, k < m → p k = true) → lotOf p m = 2 ^ m - 1
  | 0, _ => rfl
  | m + 1, h => by rw [lotOf, lotOf_full fun k hk => h k (by omega), if_pos (h m (by omega)), Int.pow_succ]; omega
theorem bit_full : ∀ n : Fin 7, ∀ k : Fin 6, k.val < n.val → bitI ((2 ^ n.val - 1 : Nat) : Int) k.val = 1 := by decide +kernel
theorem ok_all {D : List (List Int)} (hs : spB D = true) {f : Int} (hf : 0 ≤ f) : okN D f (2 ^ D.length - 1) = true := by
  obtain ⟨n1, n6⟩ := spB_len hs
  refine decide_eq_true (lotOf_full fun k hk => decide_eq_true ?_)
  have h1 := toI_le (D := D) (p := k) (k := k) (l := ((2 ^ D.length - 1 : Nat) : Int)) hk (bit_full ⟨D.length, by omega⟩ ⟨k, by omega⟩ hk)
  have h2 := ((farB_parts (spB_far hs)).2.2 k hk k hk).2.2.2.2 rfl
  omega
/-- what the net is: the least -/
def NetP (D : List (List Int)) (f : Int) (j b : Nat) : Prop := 1 ≤ b ∧ b < 2 ^ D.length ∧ okN D f b = true ∧ ∀ s, 1 ≤ s → s < j → okN D f s = true → popI b ≤ popI s
theorem net_inv {D : List (List Int)} (hs : spB D = true) {f : Int} (hf : 0 ≤ f) : NetP D f (2 ^ D.length) (netN D f) ∧ netS D f (2 ^ D.length - 1) 1 (-1) = (netN D f : Int) := by
  obtain ⟨n1, n6⟩ := spB_len hs
  obtain ⟨p1, p2⟩ := pow_n n6
  have hall := ok_all hs hf
  have p3 : 2 ≤ 2 ^ D.length := by
    have := Nat.pow_le_pow_right (show 0 < 2 by decide) n1
    omega
  have key : ∀ g j (b : Nat) (c : Int), j + g = 2 ^ D.length → 1 ≤ j → NetP D f j b → (c = -1 ∧ b = 2 ^ D.length - 1 ∧ (∀ s, 1 ≤ s → s < j → okN D f s = false) ∨ c = (b : Int) ∧ b < j) →
      NetP D f (2 ^ D.length) (netA D f g j b) ∧ (netS D f g j c = (netA D f g j b : Int) ∨ g = 0 ∧ c = -1 ∧ j = 2 ^ D.length ∧ ∀ s, 1 ≤ s → s < j → okN D f s = false) := by
    intro g
    induction g with
    | zero =>
      intro j b c hj _ hN hc
      obtain rfl : j = 2 ^ D.length := by omega
      refine ⟨hN, ?_⟩
      rcases hc with ⟨h1, _, h3⟩ | ⟨h1, _⟩
      · exact .inr ⟨rfl, h1, rfl, h3⟩
      · exact .inl h1
    | succ g ih =>
      intro j b c hj hj1 hN hc
      obtain ⟨b1, b2, b3, b4⟩ := hN
      have stepA : netA D f (g + 1) j b = netA D f g (j + 1) (if okN D f j = true ∧ popI j < popI b then j else b) := rfl
      have stepS : netS D f (g + 1) j c = netS D f g (j + 1) (if okN D f j = true ∧ (c < 0 ∨ popI j < popI c) then (j : Int) else c) := rfl
      have hres : ∀ (b' : Nat) (c' : Int), NetP D f (j + 1) b' → (c' = -1 ∧ b' = 2 ^ D.length - 1 ∧ (∀ s, 1 ≤ s → s < j + 1 → okN D f s = false) ∨ c' = (b' : Int) ∧ b' < j + 1) →
          NetP D f (2 ^ D.length) (netA D f g (j + 1) b') ∧ (netS D f g (j + 1) c' = (netA D f g (j + 1) b' : Int) ∨ g + 1 = 0 ∧ c = -1 ∧ j = 2 ^ D.length ∧ ∀ s, 1 ≤ s → s < j → okN D f s = false) := fun b' c' h1 h2 => by
        obtain ⟨q1, q2⟩ := ih (j + 1) b' c' (by omega) (by omega) h1 h2
        refine ⟨q1, ?_⟩
        rcases q2 with q2 | ⟨q2, q3, q4, q5⟩
        · exact .inl q2
        · exfalso
          have := q5 (2 ^ D.length - 1) (by omega) (by omega)
          rw [hall] at this
          cases this
      rw [stepA, stepS]
      cases ho : okN D f j with
      | false =>
        rw [if_neg (fun k => absurd k.1 (by decide)), if_neg (fun k => absurd k.1 (by decide))]
        refine hres b c ⟨b1, b2, b3, fun s s1 s2 s3 => ?_⟩ ?_
        · by_cases e : s = j
          · subst e; rw [ho] at s3; cases s3
          · exact b4 s s1 (by omega) s3
        · rcases hc with ⟨h1, h2, h3⟩ | ⟨h1, h2⟩
          · refine .inl ⟨h1, h2, fun s s1 s2 => ?_⟩
            by_cases e : s = j
            · subst e; exact ho
            · exact h3 s s1 (by omega)
          · exact .inr ⟨h1, by omega⟩
      | true =>
        rcases hc with ⟨h1, h2, h3⟩ | ⟨h1, h2⟩
        · rw [if_pos (show true = true ∧ (c < 0 ∨ popI j < popI c) from ⟨rfl, .inl (by omega)⟩)]
          by_cases e : j = 2 ^ D.length - 1
          · rw [if_neg (fun k => by have := k.2; rw [h2, e] at this; omega)]
            refine hres b j ⟨b1, b2, b3, fun s s1 s2 s3 => ?_⟩ (.inr ⟨by omega, by omega⟩)
            by_cases e2 : s = j
            · subst e2; rw [h2, e]; exact Int.le_refl _
            · exact b4 s s1 (by omega) s3
          · have hl := pop_less ⟨D.length, by omega⟩ ⟨j, by omega⟩ (by show j + 1 < 2 ^ D.length; omega)
            rw [if_pos ⟨rfl, by rw [h2]; exact hl⟩]
            refine hres j j ⟨hj1, by omega, ho, fun s s1 s2 s3 => ?_⟩ (.inr ⟨rfl, by omega⟩)
            by_cases e2 : s = j
            · subst e2; exact Int.le_refl _
            · have := h3 s s1 (by omega); rw [this] at s3; cases s3
        · subst h1
          by_cases hp : popI j < popI b
          · rw [if_pos ⟨rfl, hp⟩, if_pos ⟨rfl, .inr hp⟩]
            refine hres j j ⟨hj1, by omega, ho, fun s s1 s2 s3 => ?_⟩ (.inr ⟨rfl, by omega⟩)
            by_cases e2 : s = j
            · subst e2; exact Int.le_refl _
            · have := b4 s s1 (by omega) s3; omega
          · rw [if_neg (fun k => hp k.2), if_neg (fun k => by rcases k.2 with q | q; omega; exact hp q)]
            refine hres b b ⟨b1, b2, b3, fun s s1 s2 s3 => ?_⟩ (.inr ⟨rfl, by omega⟩)
            by_cases e2 : s = j
            · subst e2; omega
            · exact b4 s s1 (by omega) s3
  have q := key (2 ^ D.length - 1) 1 (2 ^ D.length - 1) (-1) (by omega) (Nat.le_refl _) ⟨by omega, by omega, hall, fun s s1 s2 _ => by omega⟩ (.inl ⟨rfl, rfl, fun s s1 s2 => by omega⟩)
  refine ⟨q.1, ?_⟩
  rcases q.2 with q2 | ⟨q2, _⟩
  · exact q2
  · omega
end Go.Proofs.Ytjaigidlpfdfiaa
