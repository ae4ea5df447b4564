/- What is proved: spec.ToSet, spec.AroundSet and impl.AroundSet return what is said of a set. Conditions: those of each contract. -/
import Derived.Test.YtjaigidlpfdfiaaSets
namespace Go.Proofs.Ytjaigidlpfdfiaa
open Go.RowKit
set_option maxRecDepth 100000 in
set_option maxHeartbeats 2000000 in
theorem sToSet_any (A : Option Addr) (cp : Nat) (D : List (List Int)) (p : Nat) (l : Int) (w : World) (h : Mat w A cp D) (hs : setB D l = true) (hp : p < D.length) :
    Calls Try.prog 45 #[.slice A D.length cp, .int .i64 p, .int .i64 l] w fun e w' => e = .returned (.int .i64 (toI D p l)) ∧ ∃ m, w' = w.drewN m := by
  obtain ⟨hsp, n1, n6, l1, l2, l63⟩ := setB_parts hs
  have HC := Lib.hid (sSetOk_any A cp D l w h)
  rw [hs] at HC
  obtain ⟨-, hsq, hcells⟩ := farB_parts (spB_far hsp)
  obtain ⟨bk, o, rc, rb, ro, hA, hrow, hlen, hcell, -⟩ := h.square hsq
  obtain rfl := hA (by omega)
  have HTM := Lib.hid (fun k => bitI_tmod l k (by omega))
  have HI := Lib.hid (show inB (p : Int) 0 ((D.length : Int) - 1) = true from decide_eq_true (by omega))
  have HCE := Lib.hid hcell
  have HBD := Lib.hid hcells
  have r1 := hrow p hp
  have hl1' := (hlen p hp).1
  have hp' : (p : Int) < (D.length : Nat) := by omega
  have n6' : (D.length : Int) ≤ 6 := by omega
  clear hsp hs hsq hrow hcell hcells h hA hlen
  go_enter Try.func45, Try.ntmps45
  go_wp2_with fail
  refine (HC.out).mono ?_
  rintro e w1 ⟨rfl, m1, rfl⟩
  go_wp2_with fail
  refine (l1In_any _ _ _ _).mono ?_
  rintro e w2 ⟨rfl, rfl⟩
  rw [HI.out]
  go_wp2
  go_loopg [8, 7] (D.length) (fun g s8 s7 wr => ∃ (i m : Nat) (s : Int), i + g = D.length ∧ s8 = .int .i64 i ∧ s7 = .int .i64 s ∧ wr = w.drewN m ∧ 0 ≤ s ∧ s ≤ 60 ∧ Hid (itR (fun i s => if bitI l i = 1 then min s (at2 D p i) else s) g i s = toI D p l))
  case atStart => exact ⟨0, _, _, by omega, rfl, rfl, by first | rfl | exact drewN_0 _ | exact drewN_add _ _ _, by omega, by omega, Lib.hid (rfl)⟩
  case round =>
    obtain ⟨i, mi, s, hi, rfl, rfl, rfl, hs1, hs2, Hi⟩ := hrel
    by_cases hini : i < D.length
    · obtain ⟨gi, rfl⟩ : ∃ g', gk = g' + 1 := ⟨gk - 1, by omega⟩
      have hini' : (i : Int) < (D.length : Nat) := by omega
      have c1 := HCE.out p hp i hini
      obtain ⟨p1, q1, -, -⟩ := HBD.out p hp i hini
      have Hst := Lib.hid (show itR (fun i s => if bitI l i = 1 then min s (at2 D p i) else s) (gi + 1) i s = itR (fun i s => if bitI l i = 1 then min s (at2 D p i) else s) gi (i + 1) (if bitI l i = 1 then min s (at2 D p i) else s) from rfl)
      rcases bitI_01 l i with q | q
      · have B1 : (l / 2 ^ i).tmod 2 = 0 := (HTM.out i).trans q
        have HN := Lib.hid (show (if bitI l i = 1 then min s (at2 D p i) else s) = s from if_neg (by rw [q]; decide))
        clear q
        go_wp2
        go_roundg gi
        case measure => omega
        case rel => exact ⟨i + 1, _, s, by omega, by go_num, by first | rfl | go_num, by first | rfl | exact drewN_0 _ | exact drewN_add _ _ _, by omega, by omega, Lib.hid (by rw [← Hi.out, Hst.out, HN.out])⟩
      · have B1 : (l / 2 ^ i).tmod 2 = 1 := (HTM.out i).trans q
        by_cases hle : s ≤ at2 D p i
        · have HN := Lib.hid (show (if bitI l i = 1 then min s (at2 D p i) else s) = s by rw [if_pos q]; omega)
          clear q
          go_wp2
          go_roundg gi
          case measure => omega
          case rel => exact ⟨i + 1, _, s, by omega, by go_num, by first | rfl | go_num, by first | rfl | exact drewN_0 _ | exact drewN_add _ _ _, by omega, by omega, Lib.hid (by rw [← Hi.out, Hst.out, HN.out])⟩
        · have hlt : at2 D p i < s := by omega
          have HN := Lib.hid (show (if bitI l i = 1 then min s (at2 D p i) else s) = at2 D p i by rw [if_pos q]; omega)
          clear q
          go_wp2
          go_roundg gi
          case measure => omega
          case rel => exact ⟨i + 1, _, at2 D p i, by omega, by go_num, by first | rfl | go_num, by first | rfl | exact drewN_0 _ | exact drewN_add _ _ _, by omega, by omega, Lib.hid (by rw [← Hi.out, Hst.out, HN.out])⟩
    · have hini' : ¬ (i : Int) < (D.length : Nat) := by omega
      obtain rfl : gk = 0 := by omega
      clear HTM HCE HBD r1
      go_wp2
      go_ret
      exact ⟨ret_int (by rw [← Hi.out]; rfl), _, by first | rfl | exact drewN_add _ _ _⟩
/-- what is around a set, or -1 -/
def arV (D : List (List Int)) (l f : Int) : Int := if setB D l = true ∧ inB f 0 60 = true then arI D l f else -1
theorem arV_no {D : List (List Int)} {l f : Int} (h : setB D l = false) : arV D l f = -1 := if_neg fun k => absurd (h.symm.trans k.1) (by decide)
theorem arV_no2 {D : List (List Int)} {l f : Int} (h : inB f 0 60 = false) : arV D l f = -1 := if_neg fun k => absurd (h.symm.trans k.2) (by decide)
set_option maxRecDepth 100000 in
set_option maxHeartbeats 2000000 in
theorem sAroundSet_any (A : Option Addr) (cp : Nat) (D : List (List Int)) (l f : Int) (w : World) (h : Mat w A cp D) :
    Calls Try.prog 16 #[.slice A D.length cp, .int .i64 l, .int .i64 f] w fun e w' => e = .returned (.int .i64 (arV D l f)) ∧ ∃ m, w' = w.drewN m := by
  have HM := Lib.hid h
  have HC := Lib.hid (sSetOk_any A cp D l w h)
  cases hs : setB D l with
  | false =>
    have HF := Lib.hid (arV_no (f := f) hs)
    rw [hs] at HC
    clear hs h
    go_enter Try.func16, Try.ntmps16
    go_wp2_with fail
    refine (HC.out).mono ?_
    rintro e w1 ⟨rfl, m1, rfl⟩
    go_wp2
    go_ret
    exact ⟨ret_int HF.out.symm, _, by first | rfl | exact drewN_add _ _ _⟩
  | true =>
  rw [hs] at HC
  cases hi : inB f 0 60 with
  | false =>
    have HF := Lib.hid (arV_no2 (D := D) (l := l) hi)
    have HI := Lib.hid hi
    clear hs h hi
    go_enter Try.func16, Try.ntmps16
    go_wp2_with fail
    refine (HC.out).mono ?_
    rintro e w1 ⟨rfl, m1, rfl⟩
    go_wp2_with fail
    refine (l1In_any _ _ _ _).mono ?_
    rintro e w2 ⟨rfl, rfl⟩
    rw [HI.out]
    go_wp2
    go_ret
    exact ⟨ret_int HF.out.symm, _, by first | rfl | exact drewN_add _ _ _⟩
  | true =>
    have HF := Lib.hid (show arV D l f = arI D l f from if_pos ⟨hs, hi⟩)
    have HI := Lib.hid hi
    obtain ⟨hsp, n1, n6, l1, l2, l63⟩ := setB_parts hs
    have HT := Lib.hid (fun (p : Nat) (hp : p < D.length) W (q : Mat W A cp D) => sToSet_any A cp D p l W q hs hp)
    have HA := Lib.hid (arS_all D l f)
    clear hs h hi hsp l1 l2 l63
    go_enter Try.func16, Try.ntmps16
    go_wp2_with fail
    refine (HC.out).mono ?_
    rintro e w1 ⟨rfl, m1, rfl⟩
    go_wp2_with fail
    refine (l1In_any _ _ _ _).mono ?_
    rintro e w2 ⟨rfl, rfl⟩
    rw [HI.out]
    go_wp2
    go_loopg [8, 7] (D.length) (fun g s8 s7 wr => ∃ (i m : Nat) (s : Int), i + g = D.length ∧ s8 = .int .i64 i ∧ s7 = .int .i64 s ∧ wr = w.drewN m ∧ 0 ≤ s ∧ Hid ((s < 2 ^ i ∧ arS D l f g i s = arI D l f)))
    case atStart => exact ⟨0, _, _, by omega, rfl, rfl, by first | rfl | exact drewN_0 _ | exact drewN_add _ _ _, by omega, Lib.hid (⟨by decide, HA.out⟩)⟩
    case round =>
      obtain ⟨i, mi, s, hi, rfl, rfl, rfl, hs1, Hi⟩ := hrel
      by_cases hini : i < D.length
      · obtain ⟨gi, rfl⟩ : ∃ g', gk = g' + 1 := ⟨gk - 1, by omega⟩
        have hini' : (i : Int) < (D.length : Nat) := by omega
        obtain ⟨P, hP⟩ : ∃ P : Int, (2 : Int) ^ i = P := ⟨_, rfl⟩
        have HP2 := Lib.hid (show (2 : Int) ^ (i + 1) = 2 * P by rw [Int.pow_succ, hP]; omega)
        have hw := wrap_pow (k := i) (by omega)
        have HPL := Lib.hid (show P ≤ 64 by rw [← hP]; exact (pow64 (by omega)).2)
        obtain ⟨hsP, hrl⟩ := Hi.out
        rw [hP] at hsP hw
        have hsw : s + P ≤ 1000 := by have := HPL.out; omega
        have HRL := Lib.hid hrl
        have P0 : 0 < P := by omega
        have Hst := Lib.hid (show arS D l f (gi + 1) i s = arS D l f gi (i + 1) (if decide (toI D i l ≤ f) = true then s + 2 ^ i else s) from rfl)
        rw [hP] at Hst
        have HPE := Lib.hid hP
        clear hrl Hi hP
        go_wp2_with fail
        refine (HT.out i hini _ (HM.out.ext (by repeat (first | exact Ext.refl _ | assumption | apply Ext.drewN' | apply Ext.alloc' | refine Ext.trans ?_ (by assumption))))).mono ?_
        rintro e w1 ⟨rfl, m1, rfl⟩
        by_cases hle : toI D i l ≤ f
        · have HN := Lib.hid (show (if decide (toI D i l ≤ f) = true then s + P else s) = s + P from if_pos (decide_eq_true hle))
          have hi2 : ((i : Int)).toNat = i := Int.toNat_natCast i
          have hi0 : (0 : Int) ≤ i := by omega
          have hi64 : (i : Int) ≤ 64 := by omega
          have hpw : (2 : Int) ^ i = P := HPE.out
          go_wp2
          go_roundg gi
          case measure => omega
          case rel => exact ⟨i + 1, _, s + P, by omega, by go_num, by first | rfl | go_num, by first | rfl | exact drewN_0 _ | exact drewN_add _ _ _, by omega, Lib.hid (by exact ⟨by rw [HP2.out]; omega, by rw [← HN.out, ← Hst.out]; exact HRL.out⟩)⟩
        · have HN := Lib.hid (show (if decide (toI D i l ≤ f) = true then s + P else s) = s from if_neg (by rw [decide_eq_false hle]; decide))
          go_wp2
          go_roundg gi
          case measure => omega
          case rel => exact ⟨i + 1, _, s, by omega, by go_num, by first | rfl | go_num, by first | rfl | exact drewN_0 _ | exact drewN_add _ _ _, by omega, Lib.hid (by exact ⟨by rw [HP2.out]; omega, by rw [← HRL.out, Hst.out, HN.out]⟩)⟩
      · have hini' : ¬ (i : Int) < (D.length : Nat) := by omega
        obtain rfl : gk = 0 := by omega
        go_wp2
        go_ret
        exact ⟨ret_int (by rw [HF.out, ← Hi.out.2]; rfl), _, by first | rfl | exact drewN_add _ _ _⟩
set_option maxRecDepth 100000 in
set_option maxHeartbeats 2000000 in
theorem iAroundSet_any (A : Option Addr) (cp : Nat) (D : List (List Int)) (l f : Int) (w : World) (h : Mat w A cp D) :
    Calls Try.prog 15 #[.slice A D.length cp, .int .i64 l, .int .i64 f] w fun e w' => e = .returned (.int .i64 (arV D l f)) ∧ ∃ m, w' = w.drewN m := by
  have HM := Lib.hid h
  have HC := Lib.hid (isSet_any A cp D l w h)
  cases hs : setB D l with
  | false =>
    have HF := Lib.hid (arV_no (f := f) hs)
    rw [hs] at HC
    clear hs h
    go_enter Try.func15, Try.ntmps15
    go_wp2_with fail
    refine (HC.out).mono ?_
    rintro e w1 ⟨rfl, m1, rfl⟩
    go_wp2
    go_ret
    exact ⟨ret_int HF.out.symm, _, by first | rfl | exact drewN_add _ _ _⟩
  | true =>
  rw [hs] at HC
  obtain ⟨hsp, n1, n6, l1, l2, l63⟩ := setB_parts hs
  have HT := Lib.hid (fun W (q : Mat W A cp D) => aroundSet_any A cp D l f W q (spB_far hsp) (by omega) (by omega))
  by_cases h1 : f < 0
  · have HF := Lib.hid (arV_no2 (D := D) (l := l) (f := f) (decide_eq_false (by omega)))
    clear hs h hsp
    go_enter Try.func15, Try.ntmps15
    go_wp2_with fail
    refine (HC.out).mono ?_
    rintro e w1 ⟨rfl, m1, rfl⟩
    go_wp2
    go_ret
    exact ⟨ret_int HF.out.symm, _, by first | rfl | exact drewN_add _ _ _⟩
  by_cases h2 : 60 < f
  · have HF := Lib.hid (arV_no2 (D := D) (l := l) (f := f) (decide_eq_false (by omega)))
    clear hs h hsp
    go_enter Try.func15, Try.ntmps15
    go_wp2_with fail
    refine (HC.out).mono ?_
    rintro e w1 ⟨rfl, m1, rfl⟩
    go_wp2
    go_ret
    exact ⟨ret_int HF.out.symm, _, by first | rfl | exact drewN_add _ _ _⟩
  · have HF := Lib.hid (show arV D l f = arI D l f from if_pos ⟨hs, decide_eq_true (by omega)⟩)
    clear hs h hsp
    go_enter Try.func15, Try.ntmps15
    go_wp2_with fail
    refine (HC.out).mono ?_
    rintro e w1 ⟨rfl, m1, rfl⟩
    go_wp2_with fail
    refine (HT.out _ (HM.out.ext (by repeat (first | exact Ext.refl _ | assumption | apply Ext.drewN' | apply Ext.alloc' | refine Ext.trans ?_ (by assumption))))).mono ?_
    rintro e w2 ⟨rfl, m2, rfl⟩
    go_wp2
    go_ret
    exact ⟨ret_int HF.out.symm, _, by first | rfl | exact drewN_add _ _ _⟩
end Go.Proofs.Ytjaigidlpfdfiaa
