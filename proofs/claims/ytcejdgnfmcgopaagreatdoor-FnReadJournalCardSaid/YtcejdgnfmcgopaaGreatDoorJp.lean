/- What is proved: plain facts of journals that are read (jr): lines, one after the other. No condition. -/
import Derived.Test.YtcejdgnfmcgopaaGreatDoorRp
namespace Go.Proofs.YtcejdgnfmcgopaaGreatDoor
open Go.RowKit
/-- the deeds of the lines with which a text begins, and how many bytes these have; at most f lines -/
def jr : Nat → List UInt8 → List (Int × List Int) × Nat
  | 0, _ => ([], 0)
  | f + 1, R => if cutH 10 R = true then (match rdS (cutP 10 R) with
    | some a => (a :: (jr f (cutR 10 R)).1, (cutP 10 R).length + 1 + (jr f (cutR 10 R)).2)
    | none => ([], 0)) else ([], 0)
theorem cut_lens {c : UInt8} {R : List UInt8} (h : cutH c R = true) : (cutP c R).length + 1 + (cutR c R).length = R.length ∧ cutR c R = R.drop ((cutP c R).length + 1) := by
  unfold cutH cutP cutR Lib.cut at *
  by_cases q : 0 ≤ Lib.index R [c]
  · rw [if_pos q] at h ⊢
    have hr := Lib.index_room R [c] q
    have h1 : ([c] : List UInt8).length = 1 := rfl
    rw [h1] at hr
    refine ⟨by simp; omega, ?_⟩
    show R.drop _ = R.drop _
    congr 1
    simp
    omega
  · rw [if_neg q] at h
    cases h
theorem jr_fuel : ∀ (f g : Nat) (R : List UInt8), R.length < f → R.length < g → jr f R = jr g R
  | 0, _, _, h, _ => by omega
  | _ + 1, 0, _, _, h => by omega
  | f + 1, g + 1, R, h1, h2 => by
    unfold jr
    by_cases q : cutH 10 R = true
    · rw [if_pos q, if_pos q]
      have hl := (cut_lens q).1
      rw [jr_fuel f g (cutR 10 R) (by omega) (by omega)]
    · rw [if_neg q, if_neg q]
theorem jr_none {n : Nat} {R : List UInt8} (h : ∀ b ∈ R, b ≠ 10) : jr n R = ([], 0) := by
  cases n with
  | zero => rfl
  | succ n =>
    unfold jr
    rw [(cut_miss h).2.2]
    rfl
theorem jr_line {n : Nat} {p r : List UInt8} (h : ∀ b ∈ p, b ≠ 10) (hn : (p ++ 10 :: r).length < n + 1) :
    jr (n + 1) (p ++ 10 :: r) = match rdS p with
      | some a => (a :: (jr (n + 1) r).1, p.length + 1 + (jr (n + 1) r).2)
      | none => ([], 0) := by
  obtain ⟨c1, c2, c3⟩ := cut_hit (r := r) h
  have e : jr (n + 1) (p ++ 10 :: r) = if cutH 10 (p ++ 10 :: r) = true then (match rdS (cutP 10 (p ++ 10 :: r)) with
    | some a => (a :: (jr n (cutR 10 (p ++ 10 :: r))).1, (cutP 10 (p ++ 10 :: r)).length + 1 + (jr n (cutR 10 (p ++ 10 :: r))).2)
    | none => ([], 0)) else ([], 0) := rfl
  rw [e, c3, if_pos rfl, c1, c2, jr_fuel n (n + 1) r (by rw [List.length_append, List.length_cons] at hn; omega) (by rw [List.length_append, List.length_cons] at hn; omega)]
end Go.Proofs.YtcejdgnfmcgopaaGreatDoor
