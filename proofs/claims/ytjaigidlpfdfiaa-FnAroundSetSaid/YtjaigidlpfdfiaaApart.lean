/- What is proved: impl.SetsApart returns how far two sets are apart; sets apart are around each other. No condition. -/
import Derived.Test.YtjaigidlpfdfiaaAround
namespace Go.Proofs.Ytjaigidlpfdfiaa
open Go.RowKit
def apStep (D : List (List Int)) (a b : Int) (i : Nat) (s : Int) : Int :=
  if bitI b i = 1 then max (if bitI a i = 1 then max s (toI D i b) else s) (toI D i a) else (if bitI a i = 1 then max s (toI D i b) else s)
def apI (D : List (List Int)) (a b : Int) : Int := itR (apStep D a b) D.length 0 0
def apV (D : List (List Int)) (a b : Int) : Int := if setB D a = true ∧ setB D b = true then apI D a b else -1
theorem apI_bd {D : List (List Int)} {a b : Int} (hs : spB D = true) : 0 ≤ apI D a b ∧ apI D a b ≤ 60 :=
  itR_inv (f := apStep D a b) (fun _ (s : Int) => 0 ≤ s ∧ s ≤ 60) D.length 0 0 (by omega) (fun i s _ hi h => by
    have h1 := toI_bd (spB_far hs) (p := i) (by omega) a
    have h2 := toI_bd (spB_far hs) (p := i) (by omega) b
    unfold apStep
    split <;> split <;> omega)
theorem apI_ge {D : List (List Int)} {a b : Int} {k : Nat} (hk : k < D.length) : (bitI a k = 1 → toI D k b ≤ apI D a b) ∧ (bitI b k = 1 → toI D k a ≤ apI D a b) := by
  have := itR_inv (f := apStep D a b) (fun i (s : Int) => k < i → (bitI a k = 1 → toI D k b ≤ s) ∧ (bitI b k = 1 → toI D k a ≤ s)) D.length 0 0 (by omega) (fun i s _ hi h hki => by
    by_cases e : k = i
    · subst e
      unfold apStep
      refine ⟨fun q => ?_, fun q => ?_⟩
      · rw [if_pos q]; split <;> omega
      · rw [if_pos q]; omega
    · obtain ⟨h1, h2⟩ := h (by omega)
      unfold apStep
      refine ⟨fun q => ?_, fun q => ?_⟩
      · have := h1 q; split <;> split <;> omega
      · have := h2 q; split <;> split <;> omega)
  exact this (by omega)
theorem and_sub_table : ∀ x y : Fin 64, (∀ k : Fin 6, bitI (y.val : Int) k.val = 1 → bitI (x.val : Int) k.val = 1) → bits .and .i64 (x.val : Int) (y.val : Int) = (y.val : Int) := by decide +kernel
theorem and_sub {x y : Int} (x0 : 0 ≤ x) (x1 : x < 64) (y0 : 0 ≤ y) (y1 : y < 64) (h : ∀ k, k < 6 → bitI y k = 1 → bitI x k = 1) : bits .and .i64 x y = y := by
  have := and_sub_table ⟨x.toNat, by omega⟩ ⟨y.toNat, by omega⟩ (by
    intro k
    simp only [Int.toNat_of_nonneg x0, Int.toNat_of_nonneg y0]
    exact h k.val k.isLt)
  simp only [Int.toNat_of_nonneg x0, Int.toNat_of_nonneg y0] at this
  exact this
theorem arI_bd {D : List (List Int)} {l f : Int} (hs : spB D = true) : 0 ≤ arI D l f ∧ arI D l f < 64 := by
  obtain ⟨n1, n6⟩ := spB_len hs
  have := lotOf_bd (fun k => decide (toI D k l ≤ f)) D.length
  have p := (pow64 n6).2
  unfold arI
  omega
theorem bit_big {x : Int} {n k : Nat} (h0 : 0 ≤ x) (h1 : x < 2 ^ n) (h : n ≤ k) : bitI x k = 0 := by
  have hp : (2 : Int) ^ n ≤ 2 ^ k := by exact_mod_cast Nat.pow_le_pow_right (by decide) h
  exact bit_last h0 (by omega)
theorem arI_bit {D : List (List Int)} {l f : Int} {k : Nat} (hk : k < D.length) : bitI (arI D l f) k = 1 ↔ toI D k l ≤ f := by
  unfold arI
  rw [lotOf_bit _ _ _ hk]
  by_cases h : toI D k l ≤ f
  · simp [h]
  · simp [h]
theorem around_self {D : List (List Int)} {l f : Int} (h : setB D l = true) (h0 : 0 ≤ f) : bits .and .i64 (arI D l f) l = l := by
  obtain ⟨hs, n1, n6, l1, l2, l3⟩ := setB_parts h
  obtain ⟨b0, b1⟩ := arI_bd (l := l) (f := f) hs
  refine and_sub b0 b1 (by omega) (by omega) fun k _ hk => ?_
  by_cases q : k < D.length
  · rw [arI_bit q]
    have h1 := toI_le (D := D) (p := k) q hk
    have h2 := ((farB_parts (spB_far hs)).2.2 k q k q).2.2.2.2 rfl
    omega
  · rw [bit_big (by omega) l2 (by omega)] at hk; omega
theorem around_more {D : List (List Int)} {l f : Int} (h : setB D l = true) : bits .and .i64 (arI D l (f + 1)) (arI D l f) = arI D l f := by
  obtain ⟨hs, n1, n6, l1, l2, l3⟩ := setB_parts h
  obtain ⟨b0, b1⟩ := arI_bd (l := l) (f := f) hs
  obtain ⟨c0, c1⟩ := arI_bd (l := l) (f := f + 1) hs
  refine and_sub c0 c1 b0 b1 fun k _ hk => ?_
  by_cases q : k < D.length
  · rw [arI_bit q] at hk ⊢
    omega
  · rw [bit_big b0 (lotOf_bd _ _).2 (by omega)] at hk; omega
theorem around_other1 {D : List (List Int)} {a b : Int} (_ha : setB D a = true) (hb : setB D b = true) : bits .and .i64 (arI D a (apI D a b)) b = b := by
  obtain ⟨hs, n1, n6, l1, l2, l3⟩ := setB_parts hb
  obtain ⟨b0, b1⟩ := arI_bd (l := a) (f := apI D a b) hs
  refine and_sub b0 b1 (by omega) (by omega) fun k _ hk => ?_
  by_cases q : k < D.length
  · rw [arI_bit q]; exact (apI_ge q).2 hk
  · rw [bit_big (by omega) l2 (by omega)] at hk; omega
theorem around_other2 {D : List (List Int)} {a b : Int} (ha : setB D a = true) (_hb : setB D b = true) : bits .and .i64 (arI D b (apI D a b)) a = a := by
  obtain ⟨hs, n1, n6, l1, l2, l3⟩ := setB_parts ha
  obtain ⟨b0, b1⟩ := arI_bd (l := b) (f := apI D a b) hs
  refine and_sub b0 b1 (by omega) (by omega) fun k _ hk => ?_
  by_cases q : k < D.length
  · rw [arI_bit q]; exact (apI_ge q).1 hk
  · rw [bit_big (by omega) l2 (by omega)] at hk; omega
set_option maxRecDepth 100000 in
set_option maxHeartbeats 4000000 in
theorem iSetsApart_any (A : Option Addr) (cp : Nat) (D : List (List Int)) (a b : Int) (w : World) (h : Mat w A cp D) :
    Calls Try.prog 18 #[.slice A D.length cp, .int .i64 a, .int .i64 b] w fun e w' => e = .returned (.int .i64 (apV D a b)) ∧ ∃ m, w' = w.drewN m := by
  have HM := Lib.hid h
  have HC := Lib.hid (fun x W (q : Mat W A cp D) => isSet_any A cp D x W q)
  cases ha : setB D a with
  | false =>
    have HF := Lib.hid (show apV D a b = -1 from if_neg fun k => absurd (ha.symm.trans k.1) (by decide))
    have HA := Lib.hid ha
    clear ha h
    go_enter Try.func18, Try.ntmps18
    go_wp2_with fail
    refine (HC.out a _ (HM.out.ext (by repeat (first | exact Ext.refl _ | assumption | apply Ext.drewN' | apply Ext.alloc' | refine Ext.trans ?_ (by assumption))))).mono ?_
    rintro e w1 ⟨rfl, m1, rfl⟩
    rw [HA.out]
    go_wp2
    go_ret
    exact ⟨ret_int HF.out.symm, _, by first | rfl | exact drewN_add _ _ _⟩
  | true =>
  cases hb : setB D b with
  | false =>
    have HF := Lib.hid (show apV D a b = -1 from if_neg fun k => absurd (hb.symm.trans k.2) (by decide))
    have HA := Lib.hid ha
    have HB := Lib.hid hb
    clear ha hb h
    go_enter Try.func18, Try.ntmps18
    go_wp2_with fail
    refine (HC.out a _ (HM.out.ext (by repeat (first | exact Ext.refl _ | assumption | apply Ext.drewN' | apply Ext.alloc' | refine Ext.trans ?_ (by assumption))))).mono ?_
    rintro e w1 ⟨rfl, m1, rfl⟩
    rw [HA.out]
    go_wp2_with fail
    refine (HC.out b _ (HM.out.ext (by repeat (first | exact Ext.refl _ | assumption | apply Ext.drewN' | apply Ext.alloc' | refine Ext.trans ?_ (by assumption))))).mono ?_
    rintro e w2 ⟨rfl, m2, rfl⟩
    rw [HB.out]
    go_wp2
    go_ret
    exact ⟨ret_int HF.out.symm, _, by first | rfl | exact drewN_add _ _ _⟩
  | true =>
    have HF := Lib.hid (show apV D a b = apI D a b from if_pos ⟨ha, hb⟩)
    have HA := Lib.hid ha
    have HB := Lib.hid hb
    obtain ⟨hs, n1, n6, a1, a2, a3⟩ := setB_parts ha
    obtain ⟨-, -, -, b1, b2, b3⟩ := setB_parts hb
    have HBA := Lib.hid (fun k => bitI_and a k (by omega) (by omega))
    have HBB := Lib.hid (fun k => bitI_and b k (by omega) (by omega))
    have HTB := Lib.hid (fun (p : Nat) (hp : p < D.length) W (q : Mat W A cp D) => toSet_any A cp D p b W q (spB_far hs) hp (by omega) (by omega))
    have HTA := Lib.hid (fun (p : Nat) (hp : p < D.length) W (q : Mat W A cp D) => toSet_any A cp D p a W q (spB_far hs) hp (by omega) (by omega))
    have HBD := Lib.hid (fun (p : Nat) (hp : p < D.length) l => toI_bd (spB_far hs) hp l)
    clear ha hb h hs a1 a2 a3 b1 b2 b3
    go_enter Try.func18, Try.ntmps18
    go_wp2_with fail
    refine (HC.out a _ (HM.out.ext (by repeat (first | exact Ext.refl _ | assumption | apply Ext.drewN' | apply Ext.alloc' | refine Ext.trans ?_ (by assumption))))).mono ?_
    rintro e w1 ⟨rfl, m1, rfl⟩
    rw [HA.out]
    go_wp2_with fail
    refine (HC.out b _ (HM.out.ext (by repeat (first | exact Ext.refl _ | assumption | apply Ext.drewN' | apply Ext.alloc' | refine Ext.trans ?_ (by assumption))))).mono ?_
    rintro e w2 ⟨rfl, m2, rfl⟩
    rw [HB.out]
    go_wp2
    go_loopg [21, 7] (D.length) (fun g s21 s7 wr => ∃ (i m : Nat) (s : Int), i + g = D.length ∧ s21 = .int .i64 i ∧ s7 = .int .i64 s ∧ wr = w.drewN m ∧ 0 ≤ s ∧ s ≤ 60 ∧ Hid (itR (apStep D a b) g i s = apI D a b))
    case atStart => exact ⟨0, _, _, by omega, rfl, rfl, by first | rfl | exact drewN_0 _ | exact drewN_add _ _ _, by omega, by omega, Lib.hid (rfl)⟩
    case round =>
      obtain ⟨i, mi, s, hi, rfl, rfl, rfl, hs1, hs2, Hi⟩ := hrel
      by_cases hini : i < D.length
      · obtain ⟨gi, rfl⟩ : ∃ g', gk = g' + 1 := ⟨gk - 1, by omega⟩
        have hini' : (i : Int) < (D.length : Nat) := by omega
        have B1 := HBA.out i
        have B2 := HBB.out i
        have Hst := Lib.hid (show itR (apStep D a b) (gi + 1) i s = itR (apStep D a b) gi (i + 1) (apStep D a b i s) from rfl)
        obtain ⟨p0, p1⟩ := HBD.out i hini a
        obtain ⟨q0, q1⟩ := HBD.out i hini b
        obtain ⟨x, hx⟩ : ∃ x, toI D i a = x := ⟨_, rfl⟩
        obtain ⟨y, hy⟩ : ∃ y, toI D i b = y := ⟨_, rfl⟩
        have HTAi := Lib.hid (HTA.out i hini)
        have HTBi := Lib.hid (HTB.out i hini)
        rw [hx] at p0 p1 HTAi
        rw [hy] at q0 q1 HTBi
        have Hd := Lib.hid (show apStep D a b i s = if bitI b i = 1 then max (if bitI a i = 1 then max s y else s) x else (if bitI a i = 1 then max s y else s) by unfold apStep; rw [hx, hy])
        clear hx hy
        rcases bitI_01 a i with ea | ea <;> rcases bitI_01 b i with eb | eb
        · have HN := Lib.hid (show apStep D a b i s = s by rw [Hd.out, if_neg (by rw [eb]; decide), if_neg (by rw [ea]; decide)])
          rw [ea] at B1
          rw [eb] at B2
          clear ea eb
          go_wp2
          go_roundg gi
          case measure => omega
          case rel => exact ⟨i + 1, _, s, by omega, by go_num, by first | rfl | go_num, by first | rfl | exact drewN_0 _ | exact drewN_add _ _ _, by omega, by omega, Lib.hid (by rw [← Hi.out, Hst.out, HN.out])⟩
        · have HN := Lib.hid (show apStep D a b i s = max s x by rw [Hd.out, if_pos eb, if_neg (by rw [ea]; decide)])
          rw [ea] at B1
          rw [eb] at B2
          clear ea eb
          go_wp2_with fail
          refine (HTAi.out _ (HM.out.ext (by repeat (first | exact Ext.refl _ | assumption | apply Ext.drewN' | apply Ext.alloc' | refine Ext.trans ?_ (by assumption))))).mono ?_
          rintro e w3 ⟨rfl, m3, rfl⟩
          by_cases hle : s < x
          · have HE := Lib.hid (show max s x = x by omega)
            go_wp2
            go_roundg gi
            case measure => omega
            case rel => exact ⟨i + 1, _, x, by omega, by go_num, by first | rfl | go_num, by first | rfl | exact drewN_0 _ | exact drewN_add _ _ _, by omega, by omega, Lib.hid (by rw [← Hi.out, Hst.out, HN.out, HE.out])⟩
          · have HE := Lib.hid (show max s x = s by omega)
            go_wp2
            go_roundg gi
            case measure => omega
            case rel => exact ⟨i + 1, _, s, by omega, by go_num, by first | rfl | go_num, by first | rfl | exact drewN_0 _ | exact drewN_add _ _ _, by omega, by omega, Lib.hid (by rw [← Hi.out, Hst.out, HN.out, HE.out])⟩
        · have HN := Lib.hid (show apStep D a b i s = max s y by rw [Hd.out, if_neg (by rw [eb]; decide), if_pos ea])
          rw [ea] at B1
          rw [eb] at B2
          clear ea eb
          go_wp2_with fail
          refine (HTBi.out _ (HM.out.ext (by repeat (first | exact Ext.refl _ | assumption | apply Ext.drewN' | apply Ext.alloc' | refine Ext.trans ?_ (by assumption))))).mono ?_
          rintro e w3 ⟨rfl, m3, rfl⟩
          by_cases hle : s < y
          · have HE := Lib.hid (show max s y = y by omega)
            go_wp2
            go_roundg gi
            case measure => omega
            case rel => exact ⟨i + 1, _, y, by omega, by go_num, by first | rfl | go_num, by first | rfl | exact drewN_0 _ | exact drewN_add _ _ _, by omega, by omega, Lib.hid (by rw [← Hi.out, Hst.out, HN.out, HE.out])⟩
          · have HE := Lib.hid (show max s y = s by omega)
            go_wp2
            go_roundg gi
            case measure => omega
            case rel => exact ⟨i + 1, _, s, by omega, by go_num, by first | rfl | go_num, by first | rfl | exact drewN_0 _ | exact drewN_add _ _ _, by omega, by omega, Lib.hid (by rw [← Hi.out, Hst.out, HN.out, HE.out])⟩
        · have HN := Lib.hid (show apStep D a b i s = max (max s y) x by rw [Hd.out, if_pos eb, if_pos ea])
          rw [ea] at B1
          rw [eb] at B2
          clear ea eb
          go_wp2_with fail
          refine (HTBi.out _ (HM.out.ext (by repeat (first | exact Ext.refl _ | assumption | apply Ext.drewN' | apply Ext.alloc' | refine Ext.trans ?_ (by assumption))))).mono ?_
          rintro e w3 ⟨rfl, m3, rfl⟩
          obtain ⟨t, ht, ht2⟩ : ∃ t, (if s < y then y else s) = t ∧ max s y = t := ⟨_, rfl, by split <;> omega⟩
          have t0 : 0 ≤ t ∧ t ≤ 60 := by rw [← ht]; split <;> omega
          obtain ⟨t0, t1⟩ := t0
          go_wp2_with fail
          refine (HTAi.out _ (HM.out.ext (by repeat (first | exact Ext.refl _ | assumption | apply Ext.drewN' | apply Ext.alloc' | refine Ext.trans ?_ (by assumption))))).mono ?_
          rintro e w4 ⟨rfl, m4, rfl⟩
          by_cases hle : t < x
          · have HE := Lib.hid (show max (max s y) x = x by omega)
            go_wp2
            go_roundg gi
            case measure => omega
            case rel => exact ⟨i + 1, _, x, by omega, by go_num, by first | rfl | go_num, by first | rfl | exact drewN_0 _ | exact drewN_add _ _ _, by omega, by omega, Lib.hid (by rw [← Hi.out, Hst.out, HN.out, HE.out])⟩
          · have HE := Lib.hid (show max (max s y) x = t by omega)
            go_wp2
            go_roundg gi
            case measure => omega
            case rel => exact ⟨i + 1, _, t, by omega, by go_num, by first | rfl | go_num, by first | rfl | exact drewN_0 _ | exact drewN_add _ _ _, by omega, by omega, Lib.hid (by rw [← Hi.out, Hst.out, HN.out, HE.out])⟩
      · have hini' : ¬ (i : Int) < (D.length : Nat) := by omega
        obtain rfl : gk = 0 := by omega
        go_wp2
        go_ret
        exact ⟨ret_int (by rw [HF.out, ← Hi.out]; rfl), _, by first | rfl | exact drewN_add _ _ _⟩
end Go.Proofs.Ytjaigidlpfdfiaa
