/- What is proved: sets of points as numbers: impl.toSet, impl.aroundSet, impl.isSet, impl.AroundSet and spec.SetOk, spec.ToSet, spec.AroundSet. Conditions: those of each contract. -/
import Derived.Test.YtjaigidlpfdfiaaIsoS
import Derived.Test.YtjaigidlpfdfiaaLot
namespace Go.Proofs.Ytjaigidlpfdfiaa
open Go.RowKit
/-- how far a point is from a set -/
def toI (D : List (List Int)) (p : Nat) (l : Int) : Int := itR (fun i s => if bitI l i = 1 then min s (at2 D p i) else s) D.length 0 60
theorem toI_bd {D : List (List Int)} (hf : farB D = true) {p : Nat} (hp : p < D.length) (l : Int) : 0 ≤ toI D p l ∧ toI D p l ≤ 60 := by
  have hc := (farB_parts hf).2.2
  have := itR_inv (f := fun i s => if bitI l i = 1 then min s (at2 D p i) else s) (fun _ (s : Int) => 0 ≤ s ∧ s ≤ 60) D.length 0 60 (by omega) (fun j s _ hj h => by
    have := hc p hp j (by omega)
    show 0 ≤ (if bitI l j = 1 then min s (at2 D p j) else s) ∧ (if bitI l j = 1 then min s (at2 D p j) else s) ≤ 60
    split <;> omega)
  exact this
theorem toI_le {D : List (List Int)} {p k : Nat} {l : Int} (hk : k < D.length) (hb : bitI l k = 1) : toI D p l ≤ at2 D p k := by
  have := itR_inv (f := fun i s => if bitI l i = 1 then min s (at2 D p i) else s) (fun j (s : Int) => k < j → s ≤ at2 D p k) D.length 0 60 (by omega) (fun j s _ hj h hkj => by
    show (if bitI l j = 1 then min s (at2 D p j) else s) ≤ _
    by_cases e : k = j
    · subst e; rw [if_pos hb]; omega
    · have := h (by omega)
      split <;> omega)
  exact this (by omega)
/-- a number tells a set -/
def setB (D : List (List Int)) (l : Int) : Bool := spB D && decide (1 ≤ l ∧ l < 2 ^ D.length)
theorem setB_parts {D : List (List Int)} {l : Int} (h : setB D l = true) : spB D = true ∧ 1 ≤ D.length ∧ D.length ≤ 6 ∧ 1 ≤ l ∧ l < 2 ^ D.length ∧ l ≤ 63 := by
  unfold setB at h
  simp only [Bool.and_eq_true, decide_eq_true_eq] at h
  obtain ⟨hs, h3, h4⟩ := h
  have h6 := spB_len hs
  have hp : (2 : Int) ^ D.length ≤ 2 ^ 6 := by exact_mod_cast Nat.pow_le_pow_right (by decide) h6.2
  have h5 : (2 : Int) ^ 6 = 64 := by decide
  exact ⟨hs, h6.1, h6.2, h3, h4, by omega⟩
/-- all points no farther from a set -/
def arI (D : List (List Int)) (l f : Int) : Int := lotOf (fun k => decide (toI D k l ≤ f)) D.length
theorem lotOf_itR (p : Nat → Bool) : ∀ m, itR (fun k (s : Int) => if p k = true then s + 2 ^ k else s) m 0 0 = lotOf p m
  | 0 => rfl
  | m + 1 => by
    rw [itR_last, lotOf_itR p m, lotOf]
    show (if p (0 + m) = true then _ else _) = _
    rw [Nat.zero_add]
    split <;> omega
where
  itR_last {S : Type} {f : Nat → S → S} : ∀ {g k : Nat} {s : S}, itR f (g + 1) k s = f (k + g) (itR f g k s)
  | 0, k, s => by simp [itR]
  | g + 1, k, s => by
    rw [itR, itR_last (g := g) (k := k + 1) (s := f k s)]
    show _ = f (k + (g + 1)) (itR f g (k + 1) (f k s))
    rw [show k + 1 + g = k + (g + 1) by omega]
/-- one step -/
def arS (D : List (List Int)) (l f : Int) : Nat → Nat → Int → Int := itR (fun k s => if decide (toI D k l ≤ f) = true then s + 2 ^ k else s)
theorem arS_all (D : List (List Int)) (l f : Int) : arS D l f D.length 0 0 = arI D l f := lotOf_itR _ _
theorem or_pow {s : Int} {k : Nat} (h0 : 0 ≤ s) (h1 : s < 2 ^ k) (hk : k ≤ 40) : bits .or .i64 s (2 ^ k) = s + 2 ^ k := by
  obtain ⟨x, rfl⟩ : ∃ x : Nat, s = x := ⟨s.toNat, by omega⟩
  have hx : x < 2 ^ k := by
    have : ((2 ^ k : Nat) : Int) = 2 ^ k := by simp
    omega
  have hp : 2 ^ k ≤ 2 ^ 40 := Nat.pow_le_pow_right (by decide) hk
  have e := i64_or_nat2 x (2 ^ k) (by omega) (by omega)
  rw [show (((2 ^ k : Nat)) : Int) = 2 ^ k by simp] at e
  rw [e]
  have q := Nat.two_pow_add_eq_or_of_lt hx 1
  rw [Nat.mul_one] at q
  rw [Nat.or_comm, ← q]
  simp; omega
where
  i64_or_nat2 (a b : Nat) (ha : a < 9223372036854775808) (hb : b < 9223372036854775808) : bits .or .i64 (a : Int) (b : Int) = ((a ||| b : Nat) : Int) := by
    have hx : a ||| b < 2 ^ 63 := Nat.or_lt_two_pow (by omega) (by omega)
    have hA : (BitVec.ofInt 64 ((a : Nat) : Int)).toNat = a := by
      rw [BitVec.ofInt_natCast, BitVec.toNat_ofNat]; exact Nat.mod_eq_of_lt (by omega)
    have hB : (BitVec.ofInt 64 ((b : Nat) : Int)).toNat = b := by
      rw [BitVec.ofInt_natCast, BitVec.toNat_ofNat]; exact Nat.mod_eq_of_lt (by omega)
    show IntKind.i64.wrap ((BitVec.ofInt 64 (a : Int) ||| BitVec.ofInt 64 (b : Int)).toNat : Int) = _
    rw [BitVec.toNat_or, hA, hB, IntKind.wrap_i64]
    omega

set_option maxRecDepth 100000 in
set_option maxHeartbeats 2000000 in
theorem toSet_any (A : Option Addr) (cp : Nat) (D : List (List Int)) (p : Nat) (l : Int) (w : World) (h : Mat w A cp D) (hf : farB D = true) (hp : p < D.length) (hl0 : 0 ≤ l) (hl1 : l ≤ 1000000) :
    Calls Try.prog 46 #[.slice A D.length cp, .int .i64 p, .int .i64 l] w fun e w' => e = .returned (.int .i64 (toI D p l)) ∧ ∃ m, w' = w.drewN m := by
  obtain ⟨⟨hn1, hn6⟩, hsq, hcells⟩ := farB_parts hf
  obtain ⟨bk, o, rc, rb, ro, hA, hrow, hlen, hcell, -⟩ := h.square hsq
  obtain rfl := hA (by omega)
  have HB := Lib.hid (fun k => bitI_and l k hl0 hl1)
  have HCE := Lib.hid hcell
  have HBD := Lib.hid hcells
  have r1 := hrow p hp
  have hl1' := (hlen p hp).1
  have hp' : (p : Int) < (D.length : Nat) := by omega
  clear hf hsq hrow hcell hcells h hA hlen
  go_enter Try.func46, Try.ntmps46
  go_wp2
  go_loopg [15, 7] (D.length) (fun g s15 s7 wr => ∃ (i m : Nat) (s : Int), i + g = D.length ∧ s15 = .int .i64 i ∧ s7 = .int .i64 s ∧ wr = w.drewN m ∧ 0 ≤ s ∧ s ≤ 60 ∧ Hid (itR (fun i s => if bitI l i = 1 then min s (at2 D p i) else s) g i s = toI D p l))
  case atStart => exact ⟨0, _, _, by omega, rfl, rfl, by first | rfl | exact drewN_0 _ | exact drewN_add _ _ _, by omega, by omega, Lib.hid (rfl)⟩
  case round =>
    obtain ⟨i, mi, s, hi, rfl, rfl, rfl, hs1, hs2, Hi⟩ := hrel
    by_cases hini : i < D.length
    · obtain ⟨gi, rfl⟩ : ∃ g', gk = g' + 1 := ⟨gk - 1, by omega⟩
      have hini' : (i : Int) < (D.length : Nat) := by omega
      have B1 := HB.out i
      have c1 := HCE.out p hp i hini
      obtain ⟨p1, q1, -, -⟩ := HBD.out p hp i hini
      have Hst := Lib.hid (show itR (fun i s => if bitI l i = 1 then min s (at2 D p i) else s) (gi + 1) i s = itR (fun i s => if bitI l i = 1 then min s (at2 D p i) else s) gi (i + 1) (if bitI l i = 1 then min s (at2 D p i) else s) from rfl)
      rcases bitI_01 l i with q | q
      · have HN := Lib.hid (show (if bitI l i = 1 then min s (at2 D p i) else s) = s from if_neg (by rw [q]; decide))
        rw [q] at B1
        clear q
        go_wp2
        go_roundg gi
        case measure => omega
        case rel => exact ⟨i + 1, _, s, by omega, by go_num, by first | rfl | go_num, by first | rfl | exact drewN_0 _ | exact drewN_add _ _ _, by omega, by omega, Lib.hid (by rw [← Hi.out, Hst.out, HN.out])⟩
      · by_cases hle : s ≤ at2 D p i
        · have HN := Lib.hid (show (if bitI l i = 1 then min s (at2 D p i) else s) = s by rw [if_pos q]; omega)
          rw [q] at B1
          clear q
          go_wp2
          go_roundg gi
          case measure => omega
          case rel => exact ⟨i + 1, _, s, by omega, by go_num, by first | rfl | go_num, by first | rfl | exact drewN_0 _ | exact drewN_add _ _ _, by omega, by omega, Lib.hid (by rw [← Hi.out, Hst.out, HN.out])⟩
        · have hlt : at2 D p i < s := by omega
          have HN := Lib.hid (show (if bitI l i = 1 then min s (at2 D p i) else s) = at2 D p i by rw [if_pos q]; omega)
          rw [q] at B1
          clear q
          go_wp2
          go_roundg gi
          case measure => omega
          case rel => exact ⟨i + 1, _, at2 D p i, by omega, by go_num, by first | rfl | go_num, by first | rfl | exact drewN_0 _ | exact drewN_add _ _ _, by omega, by omega, Lib.hid (by rw [← Hi.out, Hst.out, HN.out])⟩
    · have hini' : ¬ (i : Int) < (D.length : Nat) := by omega
      obtain rfl : gk = 0 := by omega
      clear HB HCE HBD r1
      go_wp2
      go_ret
      exact ⟨ret_int (by rw [← Hi.out]; rfl), _, by first | rfl | exact drewN_add _ _ _⟩
theorem pow64 {k : Nat} (h : k ≤ 6) : (1 : Int) ≤ 2 ^ k ∧ (2 : Int) ^ k ≤ 64 := by
  have h1 : (2 : Int) ^ k ≤ 2 ^ 6 := by exact_mod_cast Nat.pow_le_pow_right (by decide) h
  have h2 : (0 : Int) < 2 ^ k := Int.pow_pos (by decide)
  have h3 : (2 : Int) ^ 6 = 64 := by decide
  omega
set_option maxRecDepth 100000 in
set_option maxHeartbeats 2000000 in
theorem aroundSet_any (A : Option Addr) (cp : Nat) (D : List (List Int)) (l f : Int) (w : World) (h : Mat w A cp D) (hf : farB D = true) (hl0 : 0 ≤ l) (hl1 : l ≤ 1000000) :
    Calls Try.prog 43 #[.slice A D.length cp, .int .i64 l, .int .i64 f] w fun e w' => e = .returned (.int .i64 (arI D l f)) ∧ ∃ m, w' = w.drewN m := by
  have HM := Lib.hid h
  have n6 := (farB_parts hf).1.2
  have HT := Lib.hid (fun (p : Nat) (hp : p < D.length) W (q : Mat W A cp D) => toSet_any A cp D p l W q hf hp hl0 hl1)
  have HA := Lib.hid (arS_all D l f)
  clear hf h
  go_enter Try.func43, Try.ntmps43
  go_wp2
  go_loopg [11, 7] (D.length) (fun g s11 s7 wr => ∃ (i m : Nat) (s : Int), i + g = D.length ∧ s11 = .int .i64 i ∧ s7 = .int .i64 s ∧ wr = w.drewN m ∧ 0 ≤ s ∧ Hid ((s < 2 ^ i ∧ arS D l f g i s = arI D l f)))
  case atStart => exact ⟨0, _, _, by omega, rfl, rfl, by first | rfl | exact drewN_0 _ | exact drewN_add _ _ _, by omega, Lib.hid (⟨by decide, HA.out⟩)⟩
  case round =>
    obtain ⟨i, mi, s, hi, rfl, rfl, rfl, hs1, Hi⟩ := hrel
    by_cases hini : i < D.length
    · obtain ⟨gi, rfl⟩ : ∃ g', gk = g' + 1 := ⟨gk - 1, by omega⟩
      have hini' : (i : Int) < (D.length : Nat) := by omega
      obtain ⟨P, hP⟩ : ∃ P : Int, (2 : Int) ^ i = P := ⟨_, rfl⟩
      have HP2 := Lib.hid (show (2 : Int) ^ (i + 1) = 2 * P by rw [Int.pow_succ, hP]; omega)
      have hw := wrap_pow (k := i) (by omega)
      have hor := Lib.hid (fun (q : s < P) => or_pow (s := s) (k := i) hs1 (by rw [hP]; exact q) (by omega))
      obtain ⟨hsP, hrl⟩ := Hi.out
      rw [hP] at hsP
      have hor2 := hor.out hsP
      rw [hP] at hw hor2
      have HRL := Lib.hid hrl
      have P0 : 0 < P := by omega
      have Hst := Lib.hid (show arS D l f (gi + 1) i s = arS D l f gi (i + 1) (if decide (toI D i l ≤ f) = true then s + 2 ^ i else s) from rfl)
      rw [hP] at Hst
      have HPE := Lib.hid hP
      clear hor hrl Hi hP
      go_wp2_with fail
      refine (HT.out i hini _ (HM.out.ext (by repeat (first | exact Ext.refl _ | assumption | apply Ext.drewN' | apply Ext.alloc' | refine Ext.trans ?_ (by assumption))))).mono ?_
      rintro e w1 ⟨rfl, m1, rfl⟩
      by_cases hle : toI D i l ≤ f
      · have HN := Lib.hid (show (if decide (toI D i l ≤ f) = true then s + P else s) = s + P from if_pos (decide_eq_true hle))
        have hi2 : ((i : Int)).toNat = i := Int.toNat_natCast i
        have hi0 : (0 : Int) ≤ i := by omega
        have hi64 : (i : Int) ≤ 64 := by omega
        have hpw : (2 : Int) ^ i = P := HPE.out
        go_wp2
        go_roundg gi
        case measure => omega
        case rel => exact ⟨i + 1, _, s + P, by omega, by go_num, by first | rfl | go_num, by first | rfl | exact drewN_0 _ | exact drewN_add _ _ _, by omega, Lib.hid (by exact ⟨by rw [HP2.out]; omega, by rw [← HN.out, ← Hst.out]; exact HRL.out⟩)⟩
      · have HN := Lib.hid (show (if decide (toI D i l ≤ f) = true then s + P else s) = s from if_neg (by rw [decide_eq_false hle]; decide))
        go_wp2
        go_roundg gi
        case measure => omega
        case rel => exact ⟨i + 1, _, s, by omega, by go_num, by first | rfl | go_num, by first | rfl | exact drewN_0 _ | exact drewN_add _ _ _, by omega, Lib.hid (by exact ⟨by rw [HP2.out]; omega, by rw [← HRL.out, Hst.out, HN.out]⟩)⟩
    · have hini' : ¬ (i : Int) < (D.length : Nat) := by omega
      obtain rfl : gk = 0 := by omega
      go_wp2
      go_ret
      exact ⟨ret_int (by rw [← Hi.out.2]; rfl), _, by first | rfl | exact drewN_add _ _ _⟩
set_option maxHeartbeats 1000000 in
theorem isSet_any (A : Option Addr) (c : Nat) (D : List (List Int)) (l : Int) (w : World) (h : Mat w A c D) :
    Calls Try.prog 42 #[.slice A D.length c, .int .i64 l] w fun e w' => e = .returned (.bool (setB D l)) ∧ ∃ m, w' = w.drewN m := by
  have HC := Lib.hid (isSpace_any A c D w h)
  have Hd := Lib.hid (show setB D l = (spB D && decide (1 ≤ l ∧ l < 2 ^ D.length)) from rfl)
  cases hs : spB D with
  | false =>
    rw [hs] at HC
    have HF := Lib.hid (show setB D l = false by rw [Hd.out, hs]; rfl)
    clear hs
    go_enter Try.func42, Try.ntmps42
    go_wp2_with (go_at_call 50; refine HC.out.mono ?_; rintro e w' ⟨rfl, m0, rfl⟩)
    go_ret
    exact ⟨ret_bool HF.out.symm, _, rfl⟩
  | true =>
    rw [hs] at HC
    obtain ⟨n1, n6⟩ := spB_len hs
    have HF := Lib.hid (show setB D l = decide (1 ≤ l ∧ l < 2 ^ D.length) by rw [Hd.out, hs]; rfl)
    have HP := Lib.hid (wrap_pow (k := D.length) (by omega))
    clear hs Hd
    have n6' : (D.length : Int) ≤ 6 := by omega
    by_cases hl : 1 ≤ l
    · go_enter Try.func42, Try.ntmps42
      go_wp2_with (go_at_call 50; refine HC.out.mono ?_; rintro e w' ⟨rfl, m0, rfl⟩)
      go_ret
      exact ⟨ret_bool (by rw [HF.out, HP.out]; simp [hl]), _, rfl⟩
    · go_enter Try.func42, Try.ntmps42
      go_wp2_with (go_at_call 50; refine HC.out.mono ?_; rintro e w' ⟨rfl, m0, rfl⟩)
      go_ret
      exact ⟨ret_bool (by rw [HF.out]; exact (decide_eq_false (by omega)).symm), _, rfl⟩
set_option maxHeartbeats 1000000 in
theorem sSetOk_any (A : Option Addr) (c : Nat) (D : List (List Int)) (l : Int) (w : World) (h : Mat w A c D) :
    Calls Try.prog 44 #[.slice A D.length c, .int .i64 l] w fun e w' => e = .returned (.bool (setB D l)) ∧ ∃ m, w' = w.drewN m := by
  have HC := Lib.hid (SpaceOk_any A c D w h)
  have Hd := Lib.hid (show setB D l = (spB D && decide (1 ≤ l ∧ l < 2 ^ D.length)) from rfl)
  cases hs : spB D with
  | false =>
    rw [hs] at HC
    have HF := Lib.hid (show setB D l = false by rw [Hd.out, hs]; rfl)
    clear hs
    go_enter Try.func44, Try.ntmps44
    go_wp2_with (go_at_call 34; refine HC.out.mono ?_; rintro e w' ⟨rfl, m0, rfl⟩)
    go_ret
    exact ⟨ret_bool HF.out.symm, _, rfl⟩
  | true =>
    rw [hs] at HC
    obtain ⟨n1, n6⟩ := spB_len hs
    have HF := Lib.hid (show setB D l = decide (1 ≤ l ∧ l < 2 ^ D.length) by rw [Hd.out, hs]; rfl)
    have HP := Lib.hid (wrap_pow1 (k := D.length) (by omega))
    clear hs Hd
    have n6' : (D.length : Int) ≤ 6 := by omega
    go_enter Try.func44, Try.ntmps44
    go_wp2_with (first | (go_at_call 34; refine HC.out.mono ?_; rintro e w' ⟨rfl, m0, rfl⟩) | (go_at_call 39; refine (l1In_any _ _ _ _).mono ?_; rintro e w' ⟨rfl, rfl⟩))
    go_ret
    exact ⟨ret_bool (by rw [HF.out, HP.out]; unfold inB; rw [Bool.eq_iff_iff, decide_eq_true_iff, decide_eq_true_iff]; omega), _, rfl⟩
end Go.Proofs.Ytjaigidlpfdfiaa
