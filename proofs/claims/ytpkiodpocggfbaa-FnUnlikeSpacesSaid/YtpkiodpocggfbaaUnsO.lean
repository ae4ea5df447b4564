/- What is proved: the least difference of two spaces is 0 exactly if an order makes the second of the first. No condition. -/
import Derived.Test.YtpkiodpocggfbaaUnsZ
namespace Go.Proofs.Ytpkiodpocggfbaa
open Go.RowKit
/-- the orders of at most three points -/
def ordN : Nat → List (List Int)
  | 1 => [[0]]
  | 2 => [[0, 1], [1, 0]]
  | 3 => [[0, 1, 2], [0, 2, 1], [1, 0, 2], [1, 2, 0], [2, 0, 1], [2, 1, 0]]
  | _ => []
def ordD (D : List (List Int)) (o : List Int) : List (List Int) := o.map fun i => o.map fun k => at2 D i.toNat k.toNat
theorem ordD_len (D : List (List Int)) (o : List Int) : (ordD D o).length = o.length := by simp [ordD]
theorem ordD_row {D : List (List Int)} {o : List Int} {i : Nat} (hi : i < o.length) : row (ordD D o) i = o.map fun k => at2 D (ix o i).toNat k.toNat := by
  rw [row_of (by rw [ordD_len]; exact hi), ix_of hi]
  simp [ordD]
theorem ordD_at {D : List (List Int)} {o : List Int} {i k : Nat} (hi : i < o.length) (hk : k < o.length) : at2 (ordD D o) i k = at2 D (ix o i).toNat (ix o k).toNat := by
  show ix (row (ordD D o) i) k = _
  rw [ordD_row hi, ix_of (by simpa using hk), ix_of hk]
  simp
theorem mat_ext {A B : List (List Int)} (hl : A.length = B.length) (hr : ∀ i, i < A.length → (row A i).length = (row B i).length) (h : ∀ i, i < A.length → ∀ k, k < (row A i).length → at2 A i k = at2 B i k) : A = B :=
  List.ext_getElem hl fun i h1 h2 => by
    rw [← row_of h1, ← row_of h2]
    refine List.ext_getElem (hr i h1) fun k k1 k2 => ?_
    have := h i h1 k k1
    have e1 : at2 A i k = (row A i)[k] := ix_of k1
    have e2 : at2 B i k = (row B i)[k] := ix_of k2
    rw [← e1, ← e2]; exact this
/-- a map of at most three points onto itself is an order -/
theorem ord_of {f : Nat → Nat} {n : Nat} (h1 : 1 ≤ n) (hn : n ≤ 3) (hf : ∀ a, a < n → f a < n) (hi : ∀ a b, a < n → b < n → f a = f b → a = b) : (List.range n).map (fun a => (f a : Int)) ∈ ordN n := by
  have c : n = 1 ∨ n = 2 ∨ n = 3 := by omega
  have f0 := hf 0
  have f1 := hf 1
  have f2 := hf 2
  have i1 := hi 0 1
  have i2 := hi 0 2
  have i3 := hi 1 2
  rcases c with rfl | rfl | rfl
  · have : f 0 = 0 := by omega
    simp [List.range, List.range.loop, ordN, this]
  · have : (f 0 = 0 ∧ f 1 = 1) ∨ (f 0 = 1 ∧ f 1 = 0) := by omega
    rcases this with ⟨a, b⟩ | ⟨a, b⟩ <;> simp [List.range, List.range.loop, ordN, a, b]
  · have key : ∀ x y z : Fin 3, x.val ≠ y.val → x.val ≠ z.val → y.val ≠ z.val → [(x.val : Int), (y.val : Int), (z.val : Int)] ∈ ordN 3 := by decide +kernel
    exact key ⟨f 0, f0 (by omega)⟩ ⟨f 1, f1 (by omega)⟩ ⟨f 2, f2 (by omega)⟩ (fun e => absurd (i1 (by omega) (by omega) e) (by omega)) (fun e => absurd (i2 (by omega) (by omega) e) (by omega)) (fun e => absurd (i3 (by omega) (by omega) e) (by omega))
theorem ordN_len {n : Nat} {o : List Int} (hn : n ≤ 3) (h : o ∈ ordN n) : o.length = n ∧ (∀ a, a < n → 0 ≤ ix o a ∧ ix o a < n) ∧ ∀ b, b < n → ∃ a, a < n ∧ ix o a = ((b : Nat) : Int) := by
  have key : ∀ n : Fin 4, ∀ o ∈ ordN n.val, o.length = n.val ∧ (∀ a : Fin n.val, 0 ≤ ix o a.val ∧ ix o a.val < n.val) ∧ ∀ b : Fin n.val, ∃ a : Fin n.val, ix o a.val = ((b.val : Nat) : Int) := by decide +kernel
  obtain ⟨k1, k2, k3⟩ := key ⟨n, by omega⟩ o h
  exact ⟨k1, fun a ha => k2 ⟨a, ha⟩, fun b hb => by obtain ⟨a, e⟩ := k3 ⟨b, hb⟩; exact ⟨a.val, a.isLt, e⟩⟩
/-- 0 exactly if an order makes the second of the first -/
theorem zero_ord {D E : List (List Int)} (hs : spB D = true) (ht : spB E = true) (h3 : D.length ≤ 3) (k3 : E.length ≤ 3) : unsV D E = 0 ↔ (D.length = E.length ∧ ∃ o ∈ ordN D.length, ordD D o = E) := by
  constructor
  · intro h
    obtain ⟨f, hf⟩ := iso_of_zero ht hs k3 h3 (by rw [unsV_ex]; exact h)
    have hl := hf.len ht hs k3 h3
    have n1 := (spB_len hs).1
    refine ⟨hl.symm, _, ord_of (f := f) n1 h3 (fun a ha => hf.1 a (by omega)) (fun a b ha hb e => hf.inj ht (by omega) (by omega) e), ?_⟩
    obtain ⟨-, hsq, -⟩ := farB_parts (spB_far ht)
    have hix : ∀ a, a < D.length → ix ((List.range D.length).map fun a => (f a : Int)) a = (f a : Int) := fun a ha => by
      rw [ix_of (by simpa using ha)]; simp
    refine mat_ext (by rw [ordD_len]; simp; omega) (fun i hi => ?_) fun i hi k hk => ?_
    · rw [ordD_len] at hi
      rw [ordD_row hi, hsq i (by simp at hi; omega)]
      simp; omega
    · rw [ordD_len] at hi
      rw [ordD_row hi] at hk
      simp at hi hk
      rw [ordD_at (by simpa using hi) (by simpa using hk), hix i hi, hix k hk, hf.2.2 i (by omega) k (by omega)]
      simp
  · rintro ⟨hl, o, ho, e⟩
    obtain ⟨l1, l2, l3⟩ := ordN_len h3 ho
    rw [← unsV_ex]
    refine zero_of_iso ht hs k3 h3 (f := fun a => (ix o a).toNat) ⟨fun a ha => ?_, fun b hb => ?_, fun a ha b hb => ?_⟩
    · have := l2 a (by omega)
      show (ix o a).toNat < D.length
      omega
    · obtain ⟨a, ha, e⟩ := l3 b hb
      exact ⟨a, by omega, by show (ix o a).toNat = b; omega⟩
    · rw [← e, ordD_at (by omega) (by omega)]
end Go.Proofs.Ytpkiodpocggfbaa
