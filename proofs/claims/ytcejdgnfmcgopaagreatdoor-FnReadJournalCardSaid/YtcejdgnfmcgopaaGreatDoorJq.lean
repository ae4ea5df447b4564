/- What is proved: plain laws of journals: what is read of a text, of a part of it, and of a journal's own text. No condition. -/
import Derived.Test.YtcejdgnfmcgopaaGreatDoorJp
import Derived.Test.YtcejdgnfmcgopaaGreatDoorJt
namespace Go.Proofs.YtcejdgnfmcgopaaGreatDoor
open Go.RowKit
/-- what is read of a text -/
def jn (R : List UInt8) : List (Int × List Int) × Nat := jr (R.length + 1) R
theorem jn_none {R : List UInt8} (h : ∀ b ∈ R, b ≠ 10) : jn R = ([], 0) := jr_none h
theorem jn_line {p r : List UInt8} (h : ∀ b ∈ p, b ≠ 10) : jn (p ++ 10 :: r) = match rdS p with
    | some a => (a :: (jn r).1, p.length + 1 + (jn r).2)
    | none => ([], 0) := by
  have e := jr_line (n := (p ++ 10 :: r).length) (r := r) h (by omega)
  have f : jr ((p ++ 10 :: r).length + 1) r = jn r := jr_fuel _ _ r (by rw [List.length_append, List.length_cons]; omega) (by omega)
  rw [f] at e
  exact e
theorem split10 : ∀ R : List UInt8, (∀ b ∈ R, b ≠ 10) ∨ ∃ p r, R = p ++ 10 :: r ∧ ∀ b ∈ p, b ≠ 10
  | [] => Or.inl (fun b hb => by cases hb)
  | c :: R => by
    by_cases q : c = 10
    · exact Or.inr ⟨[], R, by rw [q]; rfl, fun b hb => by cases hb⟩
    · rcases split10 R with h | ⟨p, r, h1, h2⟩
      · exact Or.inl fun b hb => by
          rcases List.mem_cons.1 hb with e | e
          · rw [e]; exact q
          · exact h b e
      · exact Or.inr ⟨c :: p, r, by rw [h1]; rfl, fun b hb => by
          rcases List.mem_cons.1 hb with e | e
          · rw [e]; exact q
          · exact h2 b e⟩
/-- the text of deeds, line by line -/
def jL : List (Int × List Int) → List UInt8
  | [] => []
  | a :: r => dtx a.1 a.2 ++ 10 :: jL r
theorem jL_snoc (xs : List (Int × List Int)) (a : Int × List Int) : jL (xs ++ [a]) = jL xs ++ (dtx a.1 a.2 ++ [10]) := by
  induction xs with
  | nil => simp [jL]
  | cons b xs ih => simp [jL, ih]
theorem jU_take (ds : List (Int × List Int)) : ∀ n, n ≤ ds.length → jU ds n = jL (ds.take n) := by
  intro n
  induction n with
  | zero => intro _; rfl
  | succ n ih =>
    intro h
    rw [List.take_succ_eq_append_getElem (by omega), jL_snoc, ← ih (by omega)]
    show jU ds n ++ dti ds n ++ [10] = _
    unfold dti dk dx
    rw [List.getD_eq_getElem?_getD, List.getElem?_eq_getElem (by omega)]
    simp
theorem jU_all (ds : List (Int × List Int)) : jU ds ds.length = jL ds := by
  rw [jU_take ds ds.length (Nat.le_refl _), List.take_length]
/-- each deed has a text -/
def AllT (ds : List (Int × List Int)) : Prop := ∀ a ∈ ds, dtx a.1 a.2 ≠ []
theorem allT_iff {ds : List (Int × List Int)} : AllT ds ↔ ∀ i, i < ds.length → dti ds i ≠ [] := by
  constructor
  · intro h i hi
    have := h (ds[i]) (List.getElem_mem hi)
    unfold dti dk dx
    rw [List.getD_eq_getElem?_getD, List.getElem?_eq_getElem hi]
    exact this
  · intro h a ha
    obtain ⟨i, hi, rfl⟩ := List.getElem_of_mem ha
    have := h i hi
    unfold dti dk dx at this
    rw [List.getD_eq_getElem?_getD, List.getElem?_eq_getElem hi] at this
    exact this
theorem jtx_good {ds : List (Int × List Int)} (h : AllT ds) : jtx ds = jL ds := by
  unfold jtx
  rw [if_pos (allT_iff.1 h), jU_all]
theorem jtx_ne {ds : List (Int × List Int)} (h : jtx ds ≠ []) : AllT ds := by
  rw [allT_iff]
  unfold jtx at h
  by_cases q : ∀ i, i < ds.length → dti ds i ≠ []
  · exact q
  · rw [if_neg q] at h; exact absurd rfl h
theorem name_line {k : Int} (h : 0 ≤ k ∧ k ≤ 4) : ∀ b ∈ nameT k, b ≠ 10 := by
  have : k = 0 ∨ k = 1 ∨ k = 2 ∨ k = 3 ∨ k = 4 := by omega
  rcases this with rfl | rfl | rfl | rfl | rfl <;> decide +kernel
theorem dgt_line : ∀ a, a < 10 → UInt8.ofNat (48 + a) ≠ 10 := by decide +kernel
theorem dg_line {x : Int} (h0 : 0 ≤ x) (h1 : x ≤ 99) : ∀ b ∈ dg x, b ≠ 10 := by
  rcases dg_cases h0 h1 with ⟨a, ha, -, e⟩ | ⟨a, c, -, ha, hc, -, e⟩
  · rw [e]; intro b hb; rw [List.mem_singleton.1 hb]; exact dgt_line a ha
  · rw [e]; intro b hb
    rcases List.mem_cons.1 hb with q | q
    · rw [q]; exact dgt_line a ha
    · rw [List.mem_singleton.1 q]; exact dgt_line c hc
theorem row_line : ∀ {xs : List Int}, (∀ x ∈ xs, 0 ≤ x ∧ x ≤ 99) → ∀ b ∈ rowT xs, b ≠ 10
  | [], _ => by intro b hb; cases hb
  | [x], h => by
    obtain ⟨h0, h1⟩ := h x (List.mem_cons_self)
    rw [rowT_one]
    exact dg_line h0 h1
  | x :: y :: r, h => by
    obtain ⟨h0, h1⟩ := h x (List.mem_cons_self)
    have h4 := row_line (xs := y :: r) (fun z hz => h z (List.mem_cons_of_mem _ hz))
    rw [rowT_two]
    intro b hb
    rcases List.mem_append.1 hb with q | q
    · exact dg_line h0 h1 b q
    · rcases List.mem_cons.1 q with e | e
      · rw [e]; decide
      · exact h4 b e
theorem dtx_line {k : Int} {xs : List Int} (h : dtx k xs ≠ []) : ∀ b ∈ dtx k xs, b ≠ 10 := by
  obtain ⟨-, hk, hx, h1⟩ := dtx_parts (L := dtx k xs) rfl h
  have hn := name_line hk
  rcases h1 with ⟨-, e⟩ | ⟨-, e⟩
  · rw [e]; exact hn
  · rw [e]
    intro b hb
    rcases List.mem_append.1 hb with q | q
    · exact hn b q
    · rcases List.mem_cons.1 q with e2 | e2
      · rw [e2]; decide
      · exact row_line hx b e2
/-- a journal's text is read -/
theorem jn_jL : ∀ {ds : List (Int × List Int)}, AllT ds → jn (jL ds) = (ds, (jL ds).length)
  | [], _ => rfl
  | a :: r, h => by
    have ha := h a (List.mem_cons_self)
    have ih := jn_jL (ds := r) (fun b hb => h b (List.mem_cons_of_mem _ hb))
    show jn (dtx a.1 a.2 ++ 10 :: jL r) = _
    rw [jn_line (dtx_line ha), rdS_complete rfl ha]
    show (a :: (jn (jL r)).1, _ + 1 + (jn (jL r)).2) = (_, (dtx a.1 a.2 ++ 10 :: jL r).length)
    rw [ih, List.length_append, List.length_cons]
    simp only [Prod.mk.injEq, true_and]
    omega
/-- what was read is the text's beginning -/
theorem jL_jn : ∀ (n : Nat) (R : List UInt8), R.length ≤ n → AllT (jn R).1 ∧ jL (jn R).1 = R.take (jn R).2 ∧ (jn R).2 ≤ R.length
  | n, R, hn => by
    rcases split10 R with h | ⟨p, r, h1, h2⟩
    · rw [jn_none h]
      exact ⟨fun a ha => (by cases ha), rfl, Nat.zero_le _⟩
    · rw [h1, jn_line h2]
      cases hr : rdS p with
      | none => exact ⟨fun a ha => (by cases ha), rfl, Nat.zero_le _⟩
      | some a =>
        obtain ⟨n1, rfl⟩ : ∃ m, n = m + 1 := ⟨n - 1, by rw [h1, List.length_append, List.length_cons] at hn; omega⟩
        obtain ⟨i1, i2, i3⟩ := jL_jn n1 r (by rw [h1, List.length_append, List.length_cons] at hn; omega)
        obtain ⟨k1, k2⟩ := rdS_sound hr
        refine ⟨fun b hb => ?_, ?_, ?_⟩
        · rcases List.mem_cons.1 hb with e | e
          · rw [e, k2]; exact k1
          · exact i1 b e
        · show dtx a.1 a.2 ++ 10 :: jL (jn r).1 = (p ++ 10 :: r).take (p.length + 1 + (jn r).2)
          rw [k2, i2, show p.length + 1 + (jn r).2 = p.length + ((jn r).2 + 1) by omega, List.take_append, List.take_of_length_le (show p.length ≤ p.length + ((jn r).2 + 1) by omega), Nat.add_sub_cancel_left, List.take_succ_cons]
        · show p.length + 1 + (jn r).2 ≤ (p ++ 10 :: r).length
          rw [List.length_append, List.length_cons]; omega
/-- of a beginning of the text the first deeds are read -/
theorem jn_pre : ∀ (n : Nat) (R : List UInt8) (k : Nat), R.length ≤ n → (jn (R.take k)).1.length ≤ (jn R).1.length ∧ (jn (R.take k)).1 = (jn R).1.take (jn (R.take k)).1.length
  | n, R, k, hn => by
    rcases split10 R with h | ⟨p, r, h1, h2⟩
    · rw [jn_none (R := R.take k) (fun b hb => h b (List.mem_of_mem_take hb))]
      exact ⟨Nat.zero_le _, rfl⟩
    · by_cases hk : k ≤ p.length
      · rw [h1, List.take_append_of_le_length hk, jn_none (R := p.take k) (fun b hb => h2 b (List.mem_of_mem_take hb))]
        exact ⟨Nat.zero_le _, rfl⟩
      · have e : R.take k = p ++ 10 :: r.take (k - p.length - 1) := by
          rw [h1, List.take_append, List.take_of_length_le (by omega), show k - p.length = (k - p.length - 1) + 1 by omega, List.take_succ_cons]
          simp
        obtain ⟨n1, rfl⟩ : ∃ m, n = m + 1 := ⟨n - 1, by rw [h1, List.length_append, List.length_cons] at hn; omega⟩
        obtain ⟨i1, i2⟩ := jn_pre n1 r (k - p.length - 1) (by rw [h1, List.length_append, List.length_cons] at hn; omega)
        rw [e, h1, jn_line h2, jn_line h2]
        cases hr : rdS p with
        | none => exact ⟨Nat.zero_le _, rfl⟩
        | some a =>
          refine ⟨by simp only [List.length_cons]; omega, ?_⟩
          show a :: _ = (a :: _).take (_ :: _).length
          rw [List.length_cons, List.take_succ_cons, ← i2]
theorem jn_le (R : List UInt8) : (jn R).2 ≤ R.length := (jL_jn R.length R (Nat.le_refl _)).2.2
theorem jn_pre_le (R : List UInt8) (k : Nat) : (jn (R.take k)).2 ≤ k := by
  have := jn_le (R.take k)
  rw [List.length_take] at this
  omega
theorem jtx_jn (R : List UInt8) : jtx (jn R).1 = R.take (jn R).2 := by
  obtain ⟨h1, h2, -⟩ := jL_jn R.length R (Nat.le_refl _)
  rw [jtx_good h1, h2]
/-- behind a deed's text a space is none -/
theorem rdS_space (L : List UInt8) : rdS (L ++ [32]) = none := by
  cases hs : rdS (L ++ [32]) with
  | none => rfl
  | some q =>
    exfalso
    obtain ⟨k1, k2⟩ := rdS_sound hs
    obtain ⟨-, hk, hx, h1⟩ := dtx_parts k2 k1
    obtain ⟨n1, -⟩ := name_plain hk
    rcases h1 with ⟨-, e⟩ | ⟨hne, e⟩
    · exact n1 32 (by rw [← e]; simp) rfl
    · obtain ⟨-, r2⟩ := row_plain hx hne
      have hr : rowT q.2 ≠ [] := by
        intro e0
        cases hq : q.2 with
        | nil => exact hne hq
        | cons x xs =>
          rw [hq] at e0
          cases xs with
          | nil =>
            rw [rowT_one] at e0
            obtain ⟨h0, h1⟩ := hx x (by rw [hq]; exact List.mem_cons_self)
            rcases dg_cases h0 h1 with ⟨a, _, _, e⟩ | ⟨a, c, _, _, _, _, e⟩ <;> (rw [e] at e0; cases e0)
          | cons y r => rw [rowT_two] at e0; simp at e0
      have h3 : (L ++ [32]).getLast? = (nameT q.1 ++ 32 :: rowT q.2).getLast? := by rw [e]
      rw [List.getLast?_append, List.getLast?_append] at h3
      simp only [List.getLast?_singleton] at h3
      have h4 : (32 :: rowT q.2).getLast? = (rowT q.2).getLast? := by
        cases hq : rowT q.2 with
        | nil => exact absurd hq hr
        | cons a l => rw [List.getLast?_cons_cons]
      rw [h4] at h3
      obtain ⟨z, hz⟩ : ∃ z, (rowT q.2).getLast? = some z := by
        cases hq : (rowT q.2).getLast? with
        | none => exact absurd (List.getLast?_eq_none_iff.1 hq) hr
        | some z => exact ⟨z, rfl⟩
      rw [hz] at h3
      have hm := List.mem_of_getLast? hz
      simp at h3
      exact r2 z hm h3.symm
end Go.Proofs.YtcejdgnfmcgopaaGreatDoor
