/- What is proved: spec.MiddlesOf and impl.MiddlesOf return the same numbers. Conditions: sizes up to 2^20. -/
import Derived.Test.YtjaigidlpfdfiaaMid2
namespace Go.Proofs.Ytjaigidlpfdfiaa
open Go.RowKit

theorem cnt_go (xs : List Int) (k : Int) : ∀ (g j : Nat) (n : Int), j + g = xs.length → itR (fun j n => if ix xs j = k then n + 1 else n) g j n = n + (((xs.drop j).filter fun x => decide (x = k)).length : Nat)
  | 0, j, n, h => by
    have : xs.drop j = [] := List.drop_eq_nil_of_le (by omega)
    simp [itR, this]
  | g + 1, j, n, h => by
    have hj : j < xs.length := by omega
    rw [itR, cnt_go xs k g (j + 1) _ (by omega), List.drop_eq_getElem_cons hj, ix_of hj]
    by_cases e : xs[j] = k
    · rw [if_pos e, List.filter_cons_of_pos (by simpa using e), List.length_cons]; omega
    · rw [if_neg e, List.filter_cons_of_neg (by simpa using e)]
theorem cntI_eq (xs : List Int) (k n : Int) : cntI xs k n = n + ((xs.filter fun x => decide (x = k)).length : Nat) := by
  unfold cntI
  rw [cnt_go xs k xs.length 0 n (by omega), List.drop_zero]
theorem one_in_range (p : Nat → Bool) (k : Nat) : ∀ n, (((List.range n).filter p).filter fun i => decide (i = k)).length = if k < n ∧ p k = true then 1 else 0
  | 0 => by simp
  | n + 1 => by
    rw [List.range_succ, List.filter_append, List.filter_append, List.length_append, one_in_range p k n]
    by_cases e : n = k
    · subst e
      by_cases hp : p n = true
      · simp [hp]
      · simp [hp]
    · have : ((List.filter p [n]).filter fun i => decide (i = k)) = [] := by
        by_cases hp : p n = true
        · simp [hp, e]
        · simp [hp]
      rw [this]
      by_cases h : k < n
      · simp [h, show k < n + 1 by omega]
      · simp [h, show ¬ k < n + 1 by omega]
theorem cnt_sel (p : Nat → Bool) (n k : Nat) (m : Int) (hk : k < n) : cntI (selN p n) k m = m + if p k = true then 1 else 0 := by
  rw [cntI_eq, selN_eq]
  congr 1
  have e : ((((List.range n).filter p).map fun i => ((i : Nat) : Int)).filter fun x => decide (x = (k : Int))) = (((List.range n).filter p).filter fun i => decide (i = k)).map fun i => ((i : Nat) : Int) := by
    rw [List.filter_map]
    congr 1
    refine List.filter_congr fun x _ => ?_
    exact b_dd (p := ((x : Nat) : Int) = (k : Nat)) (by omega)
  rw [e, List.length_map, one_in_range]
  by_cases hp : p k = true
  · simp [hk, hp]
  · simp [hp]
theorem cnt_nil (k m : Int) : cntI [] k m = m := rfl
theorem ptsB_cons (D : List (List Int)) (x : Int) (xs : List Int) : ptsB D (x :: xs) = (pointB D x && ptsB D xs) := rfl
theorem btwV_no {D : List (List Int)} {a b : Int} (h : pointB D a = false ∨ pointB D b = false) : btwV D a b = [] := by
  unfold btwV
  rw [if_neg]
  rintro ⟨h1, h2⟩
  rcases h with h | h
  · rw [h] at h1; cases h1
  · rw [h] at h2; cases h2
theorem selN_false {p : Nat → Bool} {n : Nat} (h : ∀ i, i < n → p i = false) : selN p n = [] := by
  rw [selN_eq, List.filter_eq_nil_iff.2 (fun x hx => by rw [h x (List.mem_range.1 hx)]; simp)]; rfl
theorem cnt_btw {D : List (List Int)} {a b : Int} {k : Nat} {m : Int} (hk : k < D.length) : m ≤ cntI (btwV D a b) k m ∧ cntI (btwV D a b) k m ≤ m + 1 := by
  unfold btwV
  split
  · rw [cnt_sel _ _ _ _ hk]; split <;> omega
  · rw [cnt_nil]; omega
theorem mids_same (D : List (List Int)) (a b c : Int) : selN (triM (btwV D a b) (btwV D b c) (btwV D a c)) D.length = midsV D a b c := by
  unfold midsV
  by_cases hp : ptsB D [a, b, c] = true
  · rw [if_pos hp]
    simp only [ptsB_cons, Bool.and_eq_true] at hp
    obtain ⟨ha, hb, hc, _⟩ := hp
    unfold midsL
    refine selN_congr fun k hk => ?_
    have e1 : btwV D a b = selN (btwB D a.toNat b.toNat) D.length := if_pos ⟨ha, hb⟩
    have e2 : btwV D b c = selN (btwB D b.toNat c.toNat) D.length := if_pos ⟨hb, hc⟩
    have e3 : btwV D a c = selN (btwB D a.toNat c.toNat) D.length := if_pos ⟨ha, hc⟩
    unfold triM
    rw [e1, e2, e3, cnt_sel _ _ _ _ hk, cnt_sel _ _ _ _ hk, cnt_sel _ _ _ _ hk]
    unfold midB
    cases btwB D a.toNat b.toNat k <;> cases btwB D b.toNat c.toNat k <;> cases btwB D a.toNat c.toNat k <;> rfl
  · rw [if_neg hp]
    refine selN_false fun k hk => ?_
    unfold triM
    refine decide_eq_false ?_
    simp only [ptsB_cons, Bool.and_eq_true] at hp
    have h1 := cnt_btw (D := D) (a := a) (b := b) (m := 0) hk
    have h2 := cnt_btw (D := D) (a := b) (b := c) (m := cntI (btwV D a b) k 0) hk
    have h3 := cnt_btw (D := D) (a := a) (b := c) (m := cntI (btwV D b c) k (cntI (btwV D a b) k 0)) hk
    cases ea : pointB D a with
    | false =>
      rw [btwV_no (D := D) (a := a) (b := b) (.inl ea), cnt_nil] at *
      omega
    | true =>
      cases eb : pointB D b with
      | false =>
        rw [btwV_no (D := D) (a := a) (b := b) (.inr eb), cnt_nil] at *
        omega
      | true =>
        cases ec : pointB D c with
        | false =>
          rw [btwV_no (D := D) (a := b) (b := c) (.inr ec), cnt_nil] at *
          omega
        | true => exact absurd ⟨ea, eb, ec, rfl⟩ hp
theorem sMiddles_any (A : Option Addr) (cp : Nat) (D : List (List Int)) (a b c : Int) (w : World) (h : Mat w A cp D) (hz : D.length ≤ 1048576) :
    Calls Try.prog 62 #[.slice A D.length cp, .int .i64 a, .int .i64 b, .int .i64 c] w (FreshI w (midsV D a b c)) := by
  rw [← mids_same]
  exact sMiddlesOf_any A cp D a b c w h hz
theorem midsV_len (D : List (List Int)) (a b c : Int) : (midsV D a b c).length ≤ D.length := by
  unfold midsV
  split
  · exact selN_len _ _
  · simp
end Go.Proofs.Ytjaigidlpfdfiaa
