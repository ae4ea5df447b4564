/- What is proved: impl.MediansOf and spec.MediansOf return the same medians, as new memory. Conditions: sizes up to 2^20. -/
import Derived.Test.YtpkiodpocggfbaaMid
import Derived.Test.YtpkiodpocggfbaaMark
namespace Go.Proofs.Ytpkiodpocggfbaa
open Go.RowKit

theorem itR_inv {S : Type} {f : Nat → S → S} (P : Nat → S → Prop) : ∀ (g k : Nat) (s : S), P k s → (∀ j s, k ≤ j → j < k + g → P j s → P (j + 1) (f j s)) → P (k + g) (itR f g k s)
  | 0, _, _, h, _ => h
  | g + 1, k, s, h, hs => by
    have := itR_inv P g (k + 1) (f k s) (hs k s (Nat.le_refl _) (by omega) h) (fun j s h1 h2 h3 => hs j s (by omega) (by omega) h3)
    rw [show k + (g + 1) = k + 1 + g by omega]
    exact this
theorem sumP_bd {D : List (List Int)} {ws : List Int} {p : Nat} (hw : weightsB D ws = true) (hp : p < D.length) : 0 ≤ sumP D ws p ∧ sumP D ws p ≤ 3240 := by
  obtain ⟨hs, hl, hwt⟩ := weightsB_parts hw
  obtain ⟨⟨_, h6⟩, _, hc⟩ := farB_parts (spB_far hs)
  have := itR_inv (f := fun k s => s + ix ws k * at2 D p k) (fun j (s : Int) => 0 ≤ s ∧ s ≤ 540 * j) ws.length 0 0 (by omega) (fun j s _ hj h => by
    obtain ⟨q1, q2, _⟩ := hc p hp j (by omega)
    obtain ⟨q3, q4⟩ := hwt j (by omega)
    have := mul_bd q3 q4 q1 q2
    show 0 ≤ s + ix ws j * at2 D p j ∧ s + ix ws j * at2 D p j ≤ 540 * ((j + 1 : Nat) : Int)
    omega)
  unfold sumP
  omega

def leastS (D : List (List Int)) (ws : List Int) : Int := itR (fun i s => min s (sumP D ws i)) D.length 0 (sumP D ws 0)
def medP (D : List (List Int)) (ws : List Int) (i : Nat) : Bool := decide (sumP D ws i = leastS D ws)
def medsV (D : List (List Int)) (ws : List Int) : List Int := if weightsB D ws = true then selN (medP D ws) D.length else []

/-- spec.MediansOf round by round: the best sum so far, and where it is met -/
def medStep (f : Nat → Int) (k : Nat) (s : Int × List Int) : Int × List Int :=
  if s.1 < 0 ∨ f k < s.1 then (f k, [(k : Int)]) else if f k = s.1 then (s.1, s.2 ++ [(k : Int)]) else s
def medG (f : Nat → Int) (g k : Nat) (b : Int) (xs : List Int) : List Int := (itR (medStep f) g k (b, xs)).2
theorem medG_new {f : Nat → Int} {g k : Nat} {b : Int} {xs : List Int} (h : b < 0 ∨ f k < b) : medG f (g + 1) k b xs = medG f g (k + 1) (f k) [(k : Int)] := by
  unfold medG; rw [itR]; simp only [medStep, if_pos h]
theorem medG_more {f : Nat → Int} {g k : Nat} {b : Int} {xs : List Int} (h : ¬ (b < 0 ∨ f k < b)) (e : f k = b) : medG f (g + 1) k b xs = medG f g (k + 1) b (xs ++ [(k : Int)]) := by
  unfold medG; rw [itR]; simp only [medStep, if_neg h, if_pos e]
theorem medG_skip {f : Nat → Int} {g k : Nat} {b : Int} {xs : List Int} (h : ¬ (b < 0 ∨ f k < b)) (e : ¬ f k = b) : medG f (g + 1) k b xs = medG f g (k + 1) b xs := by
  unfold medG; rw [itR]; simp only [medStep, if_neg h, if_neg e]
theorem selN_succ (p : Nat → Bool) (n : Nat) : selN p (n + 1) = selN p n ++ if p n = true then [(n : Int)] else [] := by
  rw [selN_eq, selN_eq, List.range_succ, List.filter_append, List.map_append]
  congr 1
  by_cases h : p n = true
  · simp [h]
  · simp [h]
theorem least_spec (f : Nat → Int) (n : Nat) (hn : 0 < n) : (∀ j, j < n → itR (fun i s => min s (f i)) n 0 (f 0) ≤ f j) ∧ ∃ j, j < n ∧ itR (fun i s => min s (f i)) n 0 (f 0) = f j := by
  have := itR_inv (f := fun i s => min s (f i)) (fun k (s : Int) => (∀ j, j < k → s ≤ f j) ∧ ∃ j, j < n ∧ s = f j) n 0 (f 0) ⟨fun j hj => absurd hj (by omega), 0, hn, rfl⟩ (fun k s _ hk h => by
    obtain ⟨h1, j, hj, h2⟩ := h
    refine ⟨fun i hi => ?_, ?_⟩
    · by_cases e : i = k
      · subst e; exact Int.min_le_right _ _
      · exact Int.le_trans (Int.min_le_left _ _) (h1 i (by omega))
    · rcases Int.le_total s (f k) with h | h
      · exact ⟨j, hj, by show min s (f k) = f j; rw [Int.min_eq_left h]; exact h2⟩
      · exact ⟨k, by omega, by show min s (f k) = f k; exact Int.min_eq_right h⟩)
  simpa using this
theorem med_same (f : Nat → Int) (n : Nat) (hn : 0 < n) (hf : ∀ j, j < n → 0 ≤ f j) : medG f n 0 (-1) [] = selN (fun i => decide (f i = itR (fun i s => min s (f i)) n 0 (f 0))) n := by
  obtain ⟨h1, j0, hj0, h2⟩ := least_spec f n hn
  have key := itR_inv (f := medStep f) (fun k (s : Int × List Int) => (k = 0 → s = (-1, [])) ∧ (0 < k → 0 ≤ s.1 ∧ (∀ j, j < k → s.1 ≤ f j) ∧ (∃ j, j < k ∧ s.1 = f j) ∧ s.2 = selN (fun j => decide (f j = s.1)) k)) n 0 (-1, [])
    ⟨fun _ => rfl, fun h => absurd h (by omega)⟩ (fun k s _ hk h => by
      refine ⟨fun h => absurd h (by omega), fun _ => ?_⟩
      have hfk := hf k (by omega)
      have hcase : s.1 < 0 ∨ 0 < k := by
        rcases Nat.eq_zero_or_pos k with e | e
        · left; rw [h.1 e]; decide
        · exact .inr e
      by_cases hb : s.1 < 0 ∨ f k < s.1
      · simp only [medStep, if_pos hb]
        have hk1 : ∀ j, j < k → f k < f j ∨ (k = 0) := fun j hj => by
          obtain ⟨_, q, _, _⟩ := h.2 (by omega)
          have := q j hj
          rcases hb with hb | hb
          · have := (h.2 (by omega)).1; omega
          · left; omega
        refine ⟨hfk, fun j hj => ?_, ⟨k, by omega, rfl⟩, ?_⟩
        · by_cases e : j = k
          · subst e; exact Int.le_refl _
          · rcases hk1 j (by omega) with h | h <;> omega
        · rw [selN_succ, selN_false' (fun j hj => by
            rcases hk1 j hj with h | h
            · exact decide_eq_false (by omega)
            · omega)]
          simp
      · have hk0 : 0 < k := by rcases hcase with h' | h'
                               · exact absurd (.inl h') hb
                               · exact h'
        obtain ⟨q1, q2, ⟨j, hj, q3⟩, q4⟩ := h.2 hk0
        by_cases e : f k = s.1
        · simp only [medStep, if_neg hb, if_pos e]
          refine ⟨q1, fun i hi => ?_, ⟨j, by omega, q3⟩, ?_⟩
          · by_cases e' : i = k
            · subst e'; omega
            · exact q2 i (by omega)
          · rw [selN_succ, if_pos (decide_eq_true e), ← q4]
        · simp only [medStep, if_neg hb, if_neg e]
          refine ⟨q1, fun i hi => ?_, ⟨j, by omega, q3⟩, ?_⟩
          · by_cases e' : i = k
            · subst e'; omega
            · exact q2 i (by omega)
          · rw [selN_succ, if_neg (by simpa using e), ← q4, List.append_nil])
  simp only [Nat.zero_add] at key
  obtain ⟨q1, q2, ⟨j, hj, q3⟩, q4⟩ := key.2 hn
  have e : (itR (medStep f) n 0 (-1, [])).1 = itR (fun i s => min s (f i)) n 0 (f 0) := by
    have a := q2 j0 hj0
    have b := h1 j hj
    omega
  unfold medG
  rw [q4, e]
where
  selN_false' {p : Nat → Bool} {n : Nat} (h : ∀ i, i < n → p i = false) : selN p n = [] := by
    rw [selN_eq, List.filter_eq_nil_iff.2 (fun x hx => by rw [h x (List.mem_range.1 hx)]; simp)]; rfl

def ColM (f : Nat → Int) (w0 W : World) (v : Value) (b : Int) (g k : Nat) (T : List Int) : Prop := ∃ xs : List Int, Acc w0 W 3 v (xs.map (Value.int .i64)) ∧ xs.length ≤ k ∧ medG f g k b xs = T

theorem medsV_len (D : List (List Int)) (ws : List Int) : (medsV D ws).length ≤ D.length := by
  unfold medsV
  split
  · rw [selN_eq, List.length_map]; have := List.length_filter_le (medP D ws) (List.range D.length); simpa using this
  · simp
end Go.Proofs.Ytpkiodpocggfbaa
