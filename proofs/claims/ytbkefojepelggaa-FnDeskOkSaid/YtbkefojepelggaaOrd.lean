/- What is proved: the orders of at most five points, and comparing rows: plain words and laws. No condition. -/
import Derived.Test.YtbkefojepelggaaOd
import Derived.Test.YtbkefojepelggaaSpec1
namespace Go.Proofs.Ytbkefojepelggaa
open Go.RowKit
/-- l with each of the numbers below x that are not in it -/
def nxx (l : List Int) (acc : List (List Int)) : Nat → List (List Int)
  | 0 => acc
  | x + 1 => if (x : Int) ∈ l then nxx l acc x else nxx l acc x ++ [l ++ [(x : Int)]]
def nxi (n : Nat) (out : List (List Int)) : Nat → List (List Int)
  | 0 => []
  | i + 1 => nxx (row out i) (nxi n out i) n
/-- the beginnings of orders, k numbers of n -/
def ordK (n : Nat) : Nat → List (List Int)
  | 0 => [[]]
  | k + 1 => nxi n (ordK n k) (ordK n k).length
theorem nxx_len (l : List Int) (acc : List (List Int)) : ∀ x, (nxx l acc x).length ≤ acc.length + x
  | 0 => Nat.le_refl _
  | x + 1 => by
    have := nxx_len l acc x
    unfold nxx
    split
    · omega
    · simp; omega
theorem nxi_len (n : Nat) (out : List (List Int)) (hn : n ≤ 5) : ∀ i, (nxi n out i).length ≤ 5 * i
  | 0 => Nat.le_refl _
  | i + 1 => by
    have h1 := nxi_len n out hn i
    have h2 := nxx_len (row out i) (nxi n out i) n
    show (nxx (row out i) (nxi n out i) n).length ≤ _
    omega
/-- an order: each number from 0 on once -/
def ordOk (o : List Int) : Bool := decide (1 ≤ o.length ∧ o.length ≤ 6) && allR (fun k => decide (0 ≤ ix o k ∧ ix o k < o.length) && allR (fun j => decide (ix o j ≠ ix o k)) k 0) o.length 0
theorem ordK_facts : ∀ n k : Nat, n ≤ 5 → k ≤ n → (ordK n k).length ≤ 120 ∧ 1 ≤ (ordK n k).length ∧ ∀ i, i < (ordK n k).length → (row (ordK n k) i).length = k ∧ ∀ j, j < k → 0 ≤ ix (row (ordK n k) i) j ∧ ix (row (ordK n k) i) j < n := by
  have key : ∀ n k : Fin 6, k.val ≤ n.val → (ordK n.val k.val).length ≤ 120 ∧ 1 ≤ (ordK n.val k.val).length ∧ (ordK n.val k.val).all (fun r => decide (r.length = k.val) && r.all (fun x => decide (0 ≤ x ∧ x < n.val))) = true := by decide +kernel
  intro n k hn hk
  obtain ⟨h1, h2, h3⟩ := key ⟨n, by omega⟩ ⟨k, by omega⟩ hk
  refine ⟨h1, h2, fun i hi => ?_⟩
  have h4 := List.all_eq_true.1 h3 (row (ordK n k) i) (by rw [row_of hi]; exact List.getElem_mem _)
  simp only [Bool.and_eq_true] at h4
  have h5 : (row (ordK n k) i).length = k := of_decide_eq_true h4.1
  refine ⟨h5, fun j hj => ?_⟩
  have h6 := List.all_eq_true.1 h4.2 (ix (row (ordK n k) i) j) (by rw [ix_of (by omega)]; exact List.getElem_mem _)
  exact of_decide_eq_true h6
theorem ordK_ok : ∀ n : Nat, 1 ≤ n → n ≤ 5 → ∀ i, i < (ordK n n).length → ordOk (row (ordK n n) i) = true := by
  have key : ∀ n : Fin 6, 1 ≤ n.val → (ordK n.val n.val).all ordOk = true := by decide +kernel
  intro n h1 h5 i hi
  exact List.all_eq_true.1 (key ⟨n, by omega⟩ h1) (row (ordK n n) i) (by rw [row_of hi]; exact List.getElem_mem _)
theorem ordK_three : ∀ n : Nat, 1 ≤ n → n ≤ 3 → ordK n n = ordN n := by
  have key : ∀ n : Fin 4, 1 ≤ n.val → ordK n.val n.val = ordN n.val := by decide +kernel
  exact fun n h1 h3 => key ⟨n, by omega⟩ h1
theorem ordOk_facts {o : List Int} (h : ordOk o = true) : 1 ≤ o.length ∧ o.length ≤ 6 ∧ (∀ k, k < o.length → 0 ≤ ix o k ∧ ix o k < o.length) ∧ ∀ j k, j < o.length → k < o.length → ix o j = ix o k → j = k := by
  unfold ordOk at h
  simp only [Bool.and_eq_true] at h
  obtain ⟨h0, h1⟩ := h
  have h0 := of_decide_eq_true h0
  have h2 := (allR_all _ _).1 h1
  have h3 : ∀ j k, j < k → k < o.length → ix o j ≠ ix o k := fun j k hj hk => by
    have := h2 k hk
    simp only [Bool.and_eq_true] at this
    exact of_decide_eq_true ((allR_all _ _).1 this.2 j hj)
  refine ⟨h0.1, h0.2, fun k hk => ?_, fun j k hj hk e => ?_⟩
  · have := h2 k hk
    simp only [Bool.and_eq_true] at this
    exact of_decide_eq_true this.1
  · rcases Nat.lt_trichotomy j k with q | q | q
    · exact absurd e (h3 j k q hk)
    · exact q
    · exact absurd e.symm (h3 k j q hj)
/-- comparing numbers, rows of numbers, rows of rows: from place i on -/
def cmpZ (x y : Int) : Int := if x < y then -1 else if y < x then 1 else 0
def cmpR (xs ys : List Int) : Nat → Nat → Int
  | 0, _ => if xs.length < ys.length then -1 else 0
  | g + 1, i => if ys.length ≤ i then 1 else if cmpZ (ix xs i) (ix ys i) ≠ 0 then cmpZ (ix xs i) (ix ys i) else cmpR xs ys g (i + 1)
def cmpI (xs ys : List Int) : Int := cmpR xs ys xs.length 0
def cmpQ (D E : List (List Int)) : Nat → Nat → Int
  | 0, _ => if D.length < E.length then -1 else 0
  | g + 1, i => if E.length ≤ i then 1 else if cmpI (row D i) (row E i) ≠ 0 then cmpI (row D i) (row E i) else cmpQ D E g (i + 1)
def cmpM (D E : List (List Int)) : Int := cmpQ D E D.length 0
theorem cmpZ_zero {x y : Int} : cmpZ x y = 0 ↔ x = y := by
  unfold cmpZ
  split
  · exact ⟨fun h => absurd h (by decide), fun h => by omega⟩
  · split
    · exact ⟨fun h => absurd h (by decide), fun h => by omega⟩
    · exact ⟨fun _ => by omega, fun _ => rfl⟩
theorem cmpZ_bd (x y : Int) : -1 ≤ cmpZ x y ∧ cmpZ x y ≤ 1 := by
  unfold cmpZ
  split
  · decide
  · split <;> decide
theorem cmpR_bd (xs ys : List Int) : ∀ g i, -1 ≤ cmpR xs ys g i ∧ cmpR xs ys g i ≤ 1
  | 0, i => by unfold cmpR; split <;> decide
  | g + 1, i => by
    unfold cmpR
    split
    · decide
    · split
      · exact cmpZ_bd _ _
      · exact cmpR_bd xs ys g (i + 1)
theorem cmpQ_bd (D E : List (List Int)) : ∀ g i, -1 ≤ cmpQ D E g i ∧ cmpQ D E g i ≤ 1
  | 0, i => by unfold cmpQ; split <;> decide
  | g + 1, i => by
    unfold cmpQ
    split
    · decide
    · split
      · exact cmpR_bd _ _ _ _
      · exact cmpQ_bd D E g (i + 1)
theorem cmpR_zero {xs ys : List Int} : ∀ g i, i + g = xs.length → (cmpR xs ys g i = 0 ↔ (i + g ≤ ys.length ∨ g = 0) ∧ ¬ xs.length < ys.length ∧ ∀ j, i ≤ j → j < xs.length → ix xs j = ix ys j)
  | 0, i, hi => by
    unfold cmpR
    split
    · exact ⟨fun h => absurd h (by decide), fun h => absurd ‹_› h.2.1⟩
    · exact ⟨fun _ => ⟨.inr rfl, ‹_›, fun j h1 h2 => by omega⟩, fun _ => rfl⟩
  | g + 1, i, hi => by
    unfold cmpR
    split
    · exact ⟨fun h => absurd h (by decide), fun h => by rcases h.1 with q | q <;> omega⟩
    · split
      · rename_i h1 h2
        exact ⟨fun h => absurd h h2, fun h => absurd (cmpZ_zero.2 (h.2.2 i (Nat.le_refl _) (by omega))) h2⟩
      · rename_i h1 h2
        have e : ix xs i = ix ys i := cmpZ_zero.1 (Decidable.of_not_not h2)
        rw [cmpR_zero g (i + 1) (by omega)]
        constructor
        · rintro ⟨a, b, c⟩
          refine ⟨.inl (by rcases a with a | a <;> omega), b, fun j h3 h4 => ?_⟩
          by_cases q : j = i
          · subst q; exact e
          · exact c j (by omega) h4
        · rintro ⟨a, b, c⟩
          exact ⟨.inl (by rcases a with a | a <;> omega), b, fun j h3 h4 => c j (by omega) h4⟩
theorem cmpI_zero {xs ys : List Int} : cmpI xs ys = 0 ↔ xs = ys := by
  unfold cmpI
  rw [cmpR_zero _ _ (by omega)]
  constructor
  · rintro ⟨a, b, c⟩
    have hl : xs.length = ys.length := by rcases a with a | a <;> omega
    exact ext_ix hl fun i hi => c i (Nat.zero_le _) hi
  · rintro rfl
    exact ⟨.inl (by omega), by omega, fun _ _ _ => rfl⟩
theorem cmpQ_zero {D E : List (List Int)} : ∀ g i, i + g = D.length → (cmpQ D E g i = 0 ↔ (i + g ≤ E.length ∨ g = 0) ∧ ¬ D.length < E.length ∧ ∀ j, i ≤ j → j < D.length → row D j = row E j)
  | 0, i, hi => by
    unfold cmpQ
    split
    · exact ⟨fun h => absurd h (by decide), fun h => absurd ‹_› h.2.1⟩
    · exact ⟨fun _ => ⟨.inr rfl, ‹_›, fun j h1 h2 => by omega⟩, fun _ => rfl⟩
  | g + 1, i, hi => by
    unfold cmpQ
    split
    · exact ⟨fun h => absurd h (by decide), fun h => by rcases h.1 with q | q <;> omega⟩
    · split
      · rename_i h1 h2
        exact ⟨fun h => absurd h h2, fun h => absurd (cmpI_zero.2 (h.2.2 i (Nat.le_refl _) (by omega))) h2⟩
      · rename_i h1 h2
        have e : row D i = row E i := cmpI_zero.1 (Decidable.of_not_not h2)
        rw [cmpQ_zero g (i + 1) (by omega)]
        constructor
        · rintro ⟨a, b, c⟩
          refine ⟨.inl (by rcases a with a | a <;> omega), b, fun j h3 h4 => ?_⟩
          by_cases q : j = i
          · subst q; exact e
          · exact c j (by omega) h4
        · rintro ⟨a, b, c⟩
          exact ⟨.inl (by rcases a with a | a <;> omega), b, fun j h3 h4 => c j (by omega) h4⟩
theorem cmpM_zero {D E : List (List Int)} : cmpM D E = 0 ↔ D = E := by
  unfold cmpM
  rw [cmpQ_zero _ _ (by omega)]
  constructor
  · rintro ⟨a, b, c⟩
    have hl : D.length = E.length := by rcases a with a | a <;> omega
    exact ext_row hl fun i hi => c i (Nat.zero_le _) hi
  · rintro rfl
    exact ⟨.inl (by omega), by omega, fun _ _ _ => rfl⟩
end Go.Proofs.Ytbkefojepelggaa
