/- What is proved: impl.FitTogether and spec.FitTogether return whether two lots can be splits of one tree. No condition. -/
import Derived.Test.YtimelegkgaimjaaSplit
import Derived.Laws.BitsAllLaws
namespace Go.Proofs.Ytimelegkgaimjaa
open Go.RowKit

theorem ofInt_i64 (a : Nat) (ha : a < 9223372036854775808) : (BitVec.ofInt 64 (a : Int)).toNat = a := by
  rw [BitVec.ofInt_natCast, BitVec.toNat_ofNat]; exact Nat.mod_eq_of_lt (by omega)
theorem i64_and_nat (a b : Nat) (ha : a < 9223372036854775808) (hb : b < 9223372036854775808) : bits .and .i64 (a : Int) (b : Int) = ((a &&& b : Nat) : Int) := by
  have hx : a &&& b < 2 ^ 63 := Nat.and_lt_two_pow _ (by omega)
  show IntKind.i64.wrap ((BitVec.ofInt 64 (a : Int) &&& BitVec.ofInt 64 (b : Int)).toNat : Int) = _
  rw [BitVec.toNat_and, ofInt_i64 a ha, ofInt_i64 b hb, IntKind.wrap_i64]
  omega
theorem i64_or_nat (a b : Nat) (ha : a < 9223372036854775808) (hb : b < 9223372036854775808) : bits .or .i64 (a : Int) (b : Int) = ((a ||| b : Nat) : Int) := by
  have hx : a ||| b < 2 ^ 63 := Nat.or_lt_two_pow (by omega) (by omega)
  show IntKind.i64.wrap ((BitVec.ofInt 64 (a : Int) ||| BitVec.ofInt 64 (b : Int)).toNat : Int) = _
  rw [BitVec.toNat_or, ofInt_i64 a ha, ofInt_i64 b hb, IntKind.wrap_i64]
  omega

/-- two lots of n points can be splits of one tree -/
def fitN (n : Nat) (a b : Int) : Bool :=
  bits .and .i64 a b == 0 || bits .andNot .i64 a b == 0 || bits .andNot .i64 b a == 0 || bits .or .i64 a b == 2 ^ n - 1
def fitS (n : Nat) (a b : Int) : Bool :=
  bits .and .i64 a b == 0 || bits .and .i64 a (2 ^ n - 1 - b) == 0 || bits .and .i64 (2 ^ n - 1 - a) b == 0 || bits .and .i64 (2 ^ n - 1 - a) (2 ^ n - 1 - b) == 0
theorem fit_table : ∀ n : Fin 7, ∀ a : Fin 32, ∀ b : Fin 32, (a.val < 2 ^ (n.val - 1) ∧ b.val < 2 ^ (n.val - 1)) → fitN n.val (a.val : Int) (b.val : Int) = fitS n.val (a.val : Int) (b.val : Int) := by decide +kernel
theorem fit_same {n : Nat} {a b : Int} (hn : n ≤ 6) (ha : 1 ≤ a) (ha2 : a < 2 ^ (n - 1)) (hb : 1 ≤ b) (hb2 : b < 2 ^ (n - 1)) : fitN n a b = fitS n a b := by
  have hp : (2 : Int) ^ (n - 1) ≤ 2 ^ 5 := by exact_mod_cast Nat.pow_le_pow_right (by decide) (by omega)
  have h5 : (2 : Int) ^ 5 = 32 := by decide
  have e1 : ((2 ^ (n - 1) : Nat) : Int) = 2 ^ (n - 1) := by simp
  have := fit_table ⟨n, by omega⟩ ⟨a.toNat, by omega⟩ ⟨b.toNat, by omega⟩ ⟨by show a.toNat < 2 ^ (n - 1); omega, by show b.toNat < 2 ^ (n - 1); omega⟩
  simp only [Int.toNat_of_nonneg (show 0 ≤ a by omega), Int.toNat_of_nonneg (show 0 ≤ b by omega)] at this
  exact this

theorem splitB_parts {D : List (List Int)} {l : Int} (h : splitB D l = true) : spB D = true ∧ 2 ≤ D.length ∧ D.length ≤ 6 ∧ 1 ≤ l ∧ l < 2 ^ (D.length - 1) ∧ l ≤ 31 := by
  unfold splitB at h
  simp only [Bool.and_eq_true, decide_eq_true_eq] at h
  obtain ⟨hs, h2, h3, h4⟩ := h
  have h6 := (spB_len hs).2
  have hp : (2 : Int) ^ (D.length - 1) ≤ 2 ^ 5 := by exact_mod_cast Nat.pow_le_pow_right (by decide) (by omega)
  have h5 : (2 : Int) ^ 5 = 32 := by decide
  exact ⟨hs, h2, h6, h3, h4, by omega⟩

/-- two lots can be splits of one tree -/
def fitB (D : List (List Int)) (a b : Int) : Bool := splitB D a && (splitB D b && fitN D.length a b)

set_option maxHeartbeats 1000000 in
theorem iFitTogether_any (A : Option Addr) (c : Nat) (D : List (List Int)) (a b : Int) (w : World) (h : Mat w A c D) :
    Calls Try.prog 24 #[.slice A D.length c, .int .i64 a, .int .i64 b] w fun e w' => e = .returned (.bool (fitB D a b)) ∧ ∃ m, w' = w.drewN m := by
  have HA := Lib.hid (fun W (k : Mat W A c D) => isSplit_any A c D a W k)
  have HB := Lib.hid (fun W (k : Mat W A c D) => isSplit_any A c D b W k)
  have HM := Lib.hid h
  clear h
  cases ha : splitB D a with
  | false =>
    have HF := Lib.hid (show fitB D a b = false by unfold fitB; rw [ha]; rfl)
    rw [ha] at HA
    clear ha
    go_enter Try.func24, Try.ntmps24
    go_wp2_with fail
    refine (HA.out _ (HM.out.ext (by repeat (first | exact Ext.refl _ | assumption | apply Ext.drewN' | apply Ext.alloc' | refine Ext.trans ?_ (by assumption))))).mono ?_
    rintro e w1 ⟨rfl, m1, rfl⟩
    go_wp2
    go_ret
    exact ⟨ret_bool HF.out.symm, _, by first | rfl | exact drewN_add _ _ _⟩
  | true =>
    cases hb : splitB D b with
    | false =>
      have HF := Lib.hid (show fitB D a b = false by unfold fitB; rw [ha, hb]; rfl)
      rw [ha] at HA
      rw [hb] at HB
      clear ha hb
      go_enter Try.func24, Try.ntmps24
      go_wp2_with fail
      refine (HA.out _ (HM.out.ext (by repeat (first | exact Ext.refl _ | assumption | apply Ext.drewN' | apply Ext.alloc' | refine Ext.trans ?_ (by assumption))))).mono ?_
      rintro e w1 ⟨rfl, m1, rfl⟩
      go_wp2_with fail
      refine (HB.out _ (HM.out.ext (by repeat (first | exact Ext.refl _ | assumption | apply Ext.drewN' | apply Ext.alloc' | refine Ext.trans ?_ (by assumption))))).mono ?_
      rintro e w2 ⟨rfl, m2, rfl⟩
      go_wp2
      go_ret
      exact ⟨ret_bool HF.out.symm, _, by first | rfl | exact drewN_add _ _ _⟩
    | true =>
      have HF := Lib.hid (show fitB D a b = fitN D.length a b by unfold fitB; rw [ha, hb]; rfl)
      obtain ⟨_, n2, n6, _⟩ := splitB_parts ha
      have HP := Lib.hid (wrap_pow1 (k := D.length) (by omega))
      rw [ha] at HA
      rw [hb] at HB
      clear ha hb
      have HN := Lib.hid (show fitN D.length a b = (bits .and .i64 a b == 0 || bits .andNot .i64 a b == 0 || bits .andNot .i64 b a == 0 || bits .or .i64 a b == 2 ^ D.length - 1) from rfl)
      have n2' : (0 : Int) ≤ D.length := by omega
      have n6' : (D.length : Int) ≤ 6 := by omega
      go_enter Try.func24, Try.ntmps24
      go_wp2_with fail
      refine (HA.out _ (HM.out.ext (by repeat (first | exact Ext.refl _ | assumption | apply Ext.drewN' | apply Ext.alloc' | refine Ext.trans ?_ (by assumption))))).mono ?_
      rintro e w1 ⟨rfl, m1, rfl⟩
      go_wp2_with fail
      refine (HB.out _ (HM.out.ext (by repeat (first | exact Ext.refl _ | assumption | apply Ext.drewN' | apply Ext.alloc' | refine Ext.trans ?_ (by assumption))))).mono ?_
      rintro e w2 ⟨rfl, m2, rfl⟩
      go_wp2
      all_goals
        go_ret
        refine ⟨ret_bool ?_, _, by first | rfl | exact drewN_add _ _ _⟩
        rw [HF.out, HN.out, ← HP.out]
        try simp [*]
end Go.Proofs.Ytimelegkgaimjaa
