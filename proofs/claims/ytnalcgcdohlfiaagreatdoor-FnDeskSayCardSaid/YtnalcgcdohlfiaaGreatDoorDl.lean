/- What is proved: words for lists of deeds, and what deeds one after the other make of a desk. No condition. -/
import Derived.Test.YtnalcgcdohlfiaaGreatDoorDoP
import Derived.Test.YtnalcgcdohlfiaaGreatDoorPl
namespace Go.Proofs.YtnalcgcdohlfiaaGreatDoor
open Go.RowKit
/-- deeds one after the other -/
def runR (ds : List (Int × List Int)) : Nat → Nat → List (List Int) → List (List (List Int)) → Int → List (List Int) × List (List (List Int)) × Int
  | 0, _, D, L, n => (D, L, n)
  | g + 1, i, D, L, n => if doB D L (dk ds i) (dx ds i) = true then runR ds g (i + 1) (doD D L (dk ds i) (dx ds i)) (doL D L (dk ds i) (dx ds i)) (n + 1) else runR ds g (i + 1) D L n
def runV (D : List (List Int)) (L : List (List (List Int))) (ds : List (Int × List Int)) : List (List Int) × List (List (List Int)) × Int :=
  if deskB D L = true ∧ ds.length ≤ 40 then runR ds ds.length 0 D L 0 else ([], [], 0)
theorem runR_desk (ds : List (Int × List Int)) : ∀ g i D L n, deskB D L = true → deskB (runR ds g i D L n).1 (runR ds g i D L n).2.1 = true := by
  intro g
  induction g with
  | zero => intro i D L n h; exact h
  | succ g ih =>
    intro i D L n h
    unfold runR
    split
    · exact ih _ _ _ _ (do_desk h)
    · exact ih _ _ _ _ h
theorem runR_num (ds : List (Int × List Int)) : ∀ g i D L n m, (runR ds g i D L (n + m)).1 = (runR ds g i D L n).1 ∧ (runR ds g i D L (n + m)).2.1 = (runR ds g i D L n).2.1 ∧ (runR ds g i D L (n + m)).2.2 = (runR ds g i D L n).2.2 + m := by
  intro g
  induction g with
  | zero => intro i D L n m; exact ⟨rfl, rfl, rfl⟩
  | succ g ih =>
    intro i D L n m
    unfold runR
    split
    · have := ih (i + 1) (doD D L (dk ds i) (dx ds i)) (doL D L (dk ds i) (dx ds i)) (n + 1) m
      rw [show n + m + 1 = n + 1 + m by omega]
      exact this
    · exact ih _ _ _ _ _
theorem runR_add (ds : List (Int × List Int)) : ∀ g h i D L n, runR ds (g + h) i D L n = runR ds h (i + g) (runR ds g i D L n).1 (runR ds g i D L n).2.1 (runR ds g i D L n).2.2 := by
  intro g
  induction g with
  | zero => intro h i D L n; rw [Nat.zero_add]; rfl
  | succ g ih =>
    intro h i D L n
    have e1 : g + 1 + h = (g + h) + 1 := by omega
    have e2 : i + (g + 1) = i + 1 + g := by omega
    rw [e1, e2]
    have hs : ∀ k, runR ds (k + 1) i D L n = if doB D L (dk ds i) (dx ds i) = true then runR ds k (i + 1) (doD D L (dk ds i) (dx ds i)) (doL D L (dk ds i) (dx ds i)) (n + 1) else runR ds k (i + 1) D L n := fun _ => rfl
    rw [hs, hs]
    split
    · exact ih _ _ _ _ _
    · exact ih _ _ _ _ _
theorem runR_same {ds es : List (Int × List Int)} {k : Nat} : ∀ g i D L n, (∀ j, i ≤ j → j < i + g → dk ds (j + k) = dk es j ∧ dx ds (j + k) = dx es j) → runR ds g (i + k) D L n = runR es g i D L n := by
  intro g
  induction g with
  | zero => intro i D L n h; rfl
  | succ g ih =>
    intro i D L n h
    obtain ⟨h1, h2⟩ := h i (Nat.le_refl _) (by omega)
    unfold runR
    rw [h1, h2]
    have e : i + k + 1 = i + 1 + k := by omega
    split
    · rw [e]; exact ih _ _ _ _ fun j j1 j2 => h j (by omega) (by omega)
    · rw [e]; exact ih _ _ _ _ fun j j1 j2 => h j (by omega) (by omega)
theorem runR_le (ds : List (Int × List Int)) : ∀ g i D L n, n ≤ (runR ds g i D L n).2.2 ∧ (runR ds g i D L n).2.2 ≤ n + g := by
  intro g
  induction g with
  | zero => intro i D L n; exact ⟨Int.le_refl _, by show n ≤ n + ((0 : Nat) : Int); omega⟩
  | succ g ih =>
    intro i D L n
    unfold runR
    split
    · have := ih (i + 1) (doD D L (dk ds i) (dx ds i)) (doL D L (dk ds i) (dx ds i)) (n + 1); omega
    · have := ih (i + 1) D L n; omega
end Go.Proofs.YtnalcgcdohlfiaaGreatDoor
