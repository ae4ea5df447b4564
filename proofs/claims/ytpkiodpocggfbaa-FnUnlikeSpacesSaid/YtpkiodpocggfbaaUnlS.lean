/- What is proved: spec.UnlikeBy at rows of two small numbers. Conditions: those of the contract. -/
import Derived.Test.YtpkiodpocggfbaaUnl
import Derived.Test.YtpkiodpocggfbaaSplit
namespace Go.Proofs.Ytpkiodpocggfbaa
open Go.RowKit
/-- rows of two small numbers -/
def PairP (P : List (List Int)) : Prop := P.length ≤ 9 ∧ ∀ k, k < P.length → (row P k).length = 2 ∧ (0 ≤ at2 P k 0 ∧ at2 P k 0 ≤ 100) ∧ (0 ≤ at2 P k 1 ∧ at2 P k 1 ≤ 100)
def mskG (P : List (List Int)) (c : Nat) : Nat → Nat → Int → Int := itR (fun k s => bits .or .i64 s (2 ^ (at2 P k c).toNat))
def mskI (P : List (List Int)) (c : Nat) : Int := mskG P c P.length 0 0
def okU (D E P : List (List Int)) : Prop := okP D E P ∧ mskI P 0 = 2 ^ D.length - 1 ∧ mskI P 1 = 2 ^ E.length - 1
noncomputable def unlV (D E P : List (List Int)) : Int := open Classical in if spB D = true ∧ spB E = true ∧ okU D E P then unlI D E P else -1
theorem unlV_no {D E P : List (List Int)} (h : ¬ (spB D = true ∧ spB E = true ∧ okU D E P)) : unlV D E P = -1 := by
  classical
  unfold unlV; rw [if_neg h]
theorem unlV_yes {D E P : List (List Int)} (h : spB D = true ∧ spB E = true ∧ okU D E P) : unlV D E P = unlI D E P := by
  classical
  unfold unlV; rw [if_pos h]
theorem or_small : ∀ s : Fin 64, ∀ a : Fin 6, 0 ≤ bits .or .i64 (s.val : Int) (2 ^ a.val) ∧ bits .or .i64 (s.val : Int) (2 ^ a.val) < 64 := by decide +kernel
theorem or_bd {s : Int} {a : Nat} (h0 : 0 ≤ s) (h1 : s < 64) (ha : a < 6) : 0 ≤ bits .or .i64 s (2 ^ a) ∧ bits .or .i64 s (2 ^ a) < 64 := by
  have := or_small ⟨s.toNat, by omega⟩ ⟨a, ha⟩
  simp only [Int.toNat_of_nonneg h0] at this
  exact this
theorem pow6 {k : Nat} (h : k ≤ 6) : (1 : Int) ≤ 2 ^ k ∧ (2 : Int) ^ k ≤ 64 := by
  have h1 : (2 : Int) ^ k ≤ 2 ^ 6 := by exact_mod_cast Nat.pow_le_pow_right (by decide) h
  have h2 : (0 : Int) < 2 ^ k := Int.pow_pos (by decide)
  have h3 : (2 : Int) ^ 6 = 64 := by decide
  omega
set_option maxRecDepth 100000 in
set_option maxHeartbeats 8000000 in
theorem sUnlikeBy_any (A : Option Addr) (ca : Nat) (D : List (List Int)) (B : Option Addr) (cb : Nat) (E : List (List Int)) (C : Option Addr) (cc : Nat) (P : List (List Int)) (w : World) (hD : Mat w A ca D) (hE : Mat w B cb E) (hP : Mat w C cc P) (hp : PairP P) :
    Calls Try.prog 18 #[.slice A D.length ca, .slice B E.length cb, .slice C P.length cc] w fun e w' => e = .returned (.int .i64 (unlV D E P)) ∧ ∃ m, w' = w.drewN m := by
  have HMD := Lib.hid hD
  have HME := Lib.hid hE
  have HCD := Lib.hid (fun W (q : Mat W A ca D) => SpaceOk_any A ca D W q)
  have HCE' := Lib.hid (fun W (q : Mat W B cb E) => SpaceOk_any B cb E W q)
  have HNO := Lib.hid (unlV_no (D := D) (E := E) (P := P))
  cases hs : spB D with
  | false =>
    have HF := Lib.hid (HNO.out (fun q => absurd (hs.symm.trans q.1) (by decide)))
    rw [hs] at HCD
    clear hs hD hE hP hp HNO
    go_enter Try.func18, Try.ntmps18
    go_wp2_with fail
    refine (HCD.out _ (HMD.out.ext (by repeat (first | exact Ext.refl _ | assumption | apply Ext.drewN' | apply Ext.alloc' | refine Ext.trans ?_ (by assumption))))).mono ?_
    rintro e w1 ⟨rfl, m1, rfl⟩
    go_wp2
    go_ret
    exact ⟨ret_int HF.out.symm, _, by first | rfl | exact drewN_add _ _ _⟩
  | true =>
  cases ht : spB E with
  | false =>
    have HF := Lib.hid (HNO.out (fun q => absurd (ht.symm.trans q.2.1) (by decide)))
    rw [hs] at HCD
    rw [ht] at HCE'
    clear hs ht hD hE hP hp HNO
    go_enter Try.func18, Try.ntmps18
    go_wp2_with fail
    refine (HCD.out _ (HMD.out.ext (by repeat (first | exact Ext.refl _ | assumption | apply Ext.drewN' | apply Ext.alloc' | refine Ext.trans ?_ (by assumption))))).mono ?_
    rintro e w1 ⟨rfl, m1, rfl⟩
    go_wp2_with fail
    refine (HCE'.out _ (HME.out.ext (by repeat (first | exact Ext.refl _ | assumption | apply Ext.drewN' | apply Ext.alloc' | refine Ext.trans ?_ (by assumption))))).mono ?_
    rintro e w2 ⟨rfl, m2, rfl⟩
    go_wp2
    go_ret
    exact ⟨ret_int HF.out.symm, _, by first | rfl | exact drewN_add _ _ _⟩
  | true =>
    rw [hs] at HCD
    rw [ht] at HCE'
    obtain ⟨h9, hrows⟩ := hp
    obtain ⟨⟨hn1, hn6⟩, hsqD, hcD⟩ := farB_parts (spB_far hs)
    obtain ⟨⟨hm1, hm6⟩, hsqE, hcE⟩ := farB_parts (spB_far ht)
    obtain ⟨b1, o1, rc1, rb1, ro1, hA1, hrow1, hlen1, hcell1, -⟩ := hD.square hsqD
    obtain ⟨b2, o2, rc2, rb2, ro2, hA2, hrow2, hlen2, hcell2, -⟩ := hE.square hsqE
    obtain ⟨b3, o3, rc3, rb3, ro3, hA3, hrow3, hcell3, hlen3⟩ := pair_cells hP fun i hi => (hrows i hi).1
    obtain rfl := hA1 (by omega)
    obtain rfl := hA2 (by omega)
    have R1 := Lib.hid hrow1
    have R2 := Lib.hid hrow2
    have R3 := Lib.hid hrow3
    have L1 := Lib.hid hlen1
    have L2 := Lib.hid hlen2
    have L3 := Lib.hid hlen3
    have C1 := Lib.hid hcell1
    have C2 := Lib.hid hcell2
    have C3 := Lib.hid hcell3
    have B1 := Lib.hid hcD
    have B2 := Lib.hid hcE
    have HRW := Lib.hid hrows
    have HA3 := Lib.hid hA3
    have HNOK := Lib.hid (fun (q : ¬ okU D E P) => HNO.out (fun k => q k.2.2))
    have HYES := Lib.hid (fun (q : okU D E P) => (unlV_yes ⟨hs, ht, q⟩).trans (unl_same (spB_far hs) (spB_far ht) q.1).symm)
    have n6' : (D.length : Int) ≤ 6 := by omega
    have m6' : (E.length : Int) ≤ 6 := by omega
    have h9' : ¬ (9 : Int) < (P.length : Nat) := by omega
    obtain ⟨N, hN⟩ : ∃ N : Int, (2 : Int) ^ D.length = N := ⟨_, rfl⟩
    obtain ⟨M, hM⟩ : ∃ N : Int, (2 : Int) ^ E.length = N := ⟨_, rfl⟩
    obtain ⟨N1, N64⟩ : 1 ≤ N ∧ N ≤ 64 := by rw [← hN]; exact pow6 hn6
    obtain ⟨M1, M64⟩ : 1 ≤ M ∧ M ≤ 64 := by rw [← hM]; exact pow6 hm6
    have w1 : wrap64 N = N := IntWalk.wrap64_in _ ⟨by omega, by omega⟩
    have w2 : wrap64 (N - 1) = N - 1 := IntWalk.wrap64_in _ ⟨by omega, by omega⟩
    have w3 : wrap64 M = M := IntWalk.wrap64_in _ ⟨by omega, by omega⟩
    have w4 : wrap64 (M - 1) = M - 1 := IntWalk.wrap64_in _ ⟨by omega, by omega⟩
    have HOKU := Lib.hid (show okU D E P ↔ okP D E P ∧ mskI P 0 = N - 1 ∧ mskI P 1 = M - 1 by unfold okU; rw [hN, hM])
    clear hs ht hD hE hP hsqD hsqE hcD hcE hrow1 hrow2 hrow3 hlen1 hlen2 hlen3 hcell1 hcell2 hcell3 hA1 hA2 hA3 hrows HNO
    go_enter Try.func18, Try.ntmps18
    go_wp2_with fail
    refine (HCD.out _ (HMD.out.ext (by repeat (first | exact Ext.refl _ | assumption | apply Ext.drewN' | apply Ext.alloc' | refine Ext.trans ?_ (by assumption))))).mono ?_
    rintro e w1 ⟨rfl, m1, rfl⟩
    go_wp2_with fail
    refine (HCE'.out _ (HME.out.ext (by repeat (first | exact Ext.refl _ | assumption | apply Ext.drewN' | apply Ext.alloc' | refine Ext.trans ?_ (by assumption))))).mono ?_
    rintro e w2 ⟨rfl, m2, rfl⟩
    clear HCD HCE' HMD HME
    go_wp2
    go_loopg [9, 7, 8] (P.length) (fun g s9 s7 s8 wr => ∃ (k m : Nat) (lf : Int) (rt : Int), k + g = P.length ∧ s9 = .int .i64 k ∧ s7 = .int .i64 lf ∧ s8 = .int .i64 rt ∧ wr = w.drewN m ∧ 0 ≤ lf ∧ lf < 64 ∧ 0 ≤ rt ∧ rt < 64 ∧ Hid (((∀ i, i < k → (at2 P i 0 < D.length ∧ at2 P i 1 < E.length)) ∧ mskG P 0 g k lf = mskI P 0 ∧ mskG P 1 g k rt = mskI P 1)))
    case atStart => exact ⟨0, _, _, _, by omega, rfl, rfl, rfl, by first | rfl | exact drewN_0 _ | exact drewN_add _ _ _, by omega, by omega, by omega, by omega, Lib.hid (⟨fun i hi => absurd hi (by omega), rfl, rfl⟩)⟩
    case round =>
      obtain ⟨k, mk, lf, rt, hk, rfl, rfl, rfl, rfl, f0, f1, g0, g1, Hk⟩ := hrel
      by_cases hink : k < P.length
      · obtain ⟨gk, rfl⟩ : ∃ g', gk = g' + 1 := ⟨gk - 1, by omega⟩
        have hink' : (k : Int) < (P.length : Nat) := by omega
        obtain rfl := HA3.out (by omega)
        have rk := R3.out k hink
        have l3 := L3.out k hink
        obtain ⟨x1, x2⟩ := C3.out k hink
        obtain ⟨-, ⟨a0, a1⟩, ⟨c0, c1⟩⟩ := HRW.out k hink
        have Hs0 := Lib.hid (show mskG P 0 (gk + 1) k lf = mskG P 0 gk (k + 1) (bits .or .i64 lf (2 ^ (at2 P k 0).toNat)) from rfl)
        have Hs1 := Lib.hid (show mskG P 1 (gk + 1) k rt = mskG P 1 gk (k + 1) (bits .or .i64 rt (2 ^ (at2 P k 1).toNat)) from rfl)
        obtain ⟨a, ea⟩ : ∃ a : Nat, at2 P k 0 = a := ⟨(at2 P k 0).toNat, by omega⟩
        obtain ⟨c, ec⟩ : ∃ a : Nat, at2 P k 1 = a := ⟨(at2 P k 1).toNat, by omega⟩
        have HEA := Lib.hid ea
        have HEC := Lib.hid ec
        rw [ea] at x1 a0 a1 Hs0
        rw [ec] at x2 c0 c1 Hs1
        simp only [Int.toNat_natCast] at Hs0 Hs1
        clear ea ec
        by_cases q1 : a < D.length
        rotate_left
        · have HI := Lib.hid (show inB (a : Int) 0 ((D.length : Int) - 1) = false from decide_eq_false (by omega))
          have HF := Lib.hid (HNOK.out (fun q => by have := (q.1 k hink).2.1.2; rw [HEA.out] at this; omega))
          clear Hs0 Hs1 Hk
          go_wp2_with fail
          refine (l1In_any _ _ _ _).mono ?_
          rintro e w5 ⟨rfl, rfl⟩
          rw [HI.out]
          go_wp2
          go_ret
          exact ⟨ret_int HF.out.symm, _, by first | rfl | exact drewN_add _ _ _⟩
        by_cases q2 : c < E.length
        rotate_left
        · have HI := Lib.hid (show inB (a : Int) 0 ((D.length : Int) - 1) = true from decide_eq_true (by omega))
          have HJ := Lib.hid (show inB (c : Int) 0 ((E.length : Int) - 1) = false from decide_eq_false (by omega))
          have HF := Lib.hid (HNOK.out (fun q => by have := (q.1 k hink).2.2.2; rw [HEC.out] at this; omega))
          clear Hs0 Hs1 Hk
          go_wp2_with fail
          refine (l1In_any _ _ _ _).mono ?_
          rintro e w5 ⟨rfl, rfl⟩
          rw [HI.out]
          go_wp2_with fail
          refine (l1In_any _ _ _ _).mono ?_
          rintro e w6 ⟨rfl, rfl⟩
          rw [HJ.out]
          go_wp2
          go_ret
          exact ⟨ret_int HF.out.symm, _, by first | rfl | exact drewN_add _ _ _⟩
        · have HI := Lib.hid (show inB (a : Int) 0 ((D.length : Int) - 1) = true from decide_eq_true (by omega))
          have HJ := Lib.hid (show inB (c : Int) 0 ((E.length : Int) - 1) = true from decide_eq_true (by omega))
          obtain ⟨u0, u1⟩ := or_bd f0 f1 (a := a) (by omega)
          obtain ⟨v0, v1⟩ := or_bd g0 g1 (a := c) (by omega)
          have wa := wrap_pow (k := a) (by omega)
          have wc := wrap_pow (k := c) (by omega)
          obtain ⟨U, hU⟩ : ∃ U, bits .or .i64 lf (2 ^ a) = U := ⟨_, rfl⟩
          obtain ⟨V, hV⟩ : ∃ V, bits .or .i64 rt (2 ^ c) = V := ⟨_, rfl⟩
          rw [hU] at u0 u1 Hs0
          rw [hV] at v0 v1 Hs1
          have HK2 := Lib.hid (show (∀ i, i < k + 1 → (at2 P i 0 < D.length ∧ at2 P i 1 < E.length)) ∧ mskG P 0 gk (k + 1) U = mskI P 0 ∧ mskG P 1 gk (k + 1) V = mskI P 1 from by
            obtain ⟨h1, h2, h3⟩ := Hk.out
            refine ⟨fun i hi => ?_, by rw [← Hs0.out]; exact h2, by rw [← Hs1.out]; exact h3⟩
            by_cases e : i = k
            · subst e; rw [HEA.out, HEC.out]; omega
            · exact h1 i (by omega))
          clear Hs0 Hs1 Hk
          go_wp2_with fail
          refine (l1In_any _ _ _ _).mono ?_
          rintro e w5 ⟨rfl, rfl⟩
          rw [HI.out]
          go_wp2_with fail
          refine (l1In_any _ _ _ _).mono ?_
          rintro e w6 ⟨rfl, rfl⟩
          rw [HJ.out]
          go_wp2
          go_roundg gk
          case measure => omega
          case rel => exact ⟨k + 1, _, U, V, by omega, by go_num, by first | rfl | go_num, by first | rfl | go_num, by first | rfl | exact drewN_0 _ | exact drewN_add _ _ _, by omega, by omega, by omega, by omega, Lib.hid (by exact HK2.out)⟩
      · have hink' : ¬ (k : Int) < (P.length : Nat) := by omega
        obtain rfl : gk = 0 := by omega
        obtain ⟨h1, h2, h3⟩ := Hk.out
        have h2' : lf = mskI P 0 := h2
        have h3' : rt = mskI P 1 := h3
        have HOP := Lib.hid (show okP D E P from fun i hi => ⟨(HRW.out i hi).1, ⟨(HRW.out i hi).2.1.1, (h1 i (by omega)).1⟩, ⟨(HRW.out i hi).2.2.1, (h1 i (by omega)).2⟩⟩)
        by_cases e1 : lf = N - 1
        rotate_left
        · have HF := Lib.hid (HNOK.out (fun q => e1 (by rw [h2']; exact (HOKU.out.1 q).2.1)))
          have e1' : (lf != N - 1) = true := by simp [e1]
          clear h1 h2 h3 h2' h3' Hk e1
          go_wp2
          go_ret
          exact ⟨ret_int HF.out.symm, _, by first | rfl | exact drewN_add _ _ _⟩
        by_cases e2 : rt = M - 1
        rotate_left
        · have HF := Lib.hid (HNOK.out (fun q => e2 (by rw [h3']; exact (HOKU.out.1 q).2.2)))
          have e1' : (lf != N - 1) = false := by simp [e1]
          have e2' : (rt != M - 1) = true := by simp [e2]
          clear h1 h2 h3 h2' h3' Hk e1 e2
          go_wp2
          go_ret
          exact ⟨ret_int HF.out.symm, _, by first | rfl | exact drewN_add _ _ _⟩
        · have HF := Lib.hid (HYES.out (HOKU.out.2 ⟨HOP.out, by rw [← h2']; exact e1, by rw [← h3']; exact e2⟩))
          have e1' : (lf != N - 1) = false := by simp [e1]
          have e2' : (rt != M - 1) = false := by simp [e2]
          clear h1 h2 h3 h2' h3' Hk e1 e2
          go_wp2
          clear e1' e2'
          go_loopg [11, 10] (P.length) (fun g s11 s10 wr => ∃ (k m : Nat) (t1 : Int), k + g = P.length ∧ s11 = .int .i64 k ∧ s10 = .int .i64 t1 ∧ wr = w.drewN m ∧ 0 ≤ t1 ∧ t1 ≤ 60 ∧ Hid (itR (fun k s => un1 D E P k k 0 s) g k t1 = unlS D E P))
          case atStart => exact ⟨0, _, _, by omega, rfl, rfl, by first | rfl | exact drewN_0 _ | exact drewN_add _ _ _, by omega, by omega, Lib.hid (rfl)⟩
          case round =>
            obtain ⟨k, mk, t1, hk, rfl, rfl, rfl, ht1, ht1', Hk⟩ := hrel
            by_cases hink : k < P.length
            · obtain ⟨gk, rfl⟩ : ∃ g', gk = g' + 1 := ⟨gk - 1, by omega⟩
              have hink' : (k : Int) < (P.length : Nat) := by omega
              obtain rfl := HA3.out (by omega)
              have rk := R3.out k hink
              go_wp2
              go_loopg [12, 10] (k) (fun g s12 s10 wr => ∃ (j m : Nat) (t2 : Int), j + g = k ∧ s12 = .int .i64 j ∧ s10 = .int .i64 t2 ∧ wr = w.drewN m ∧ 0 ≤ t2 ∧ t2 ≤ 60 ∧ Hid (un1 D E P k g j t2 = un1 D E P k k 0 t1))
              case atStart => exact ⟨0, _, _, by omega, rfl, rfl, by first | rfl | exact drewN_0 _ | exact drewN_add _ _ _, by omega, by omega, Lib.hid (rfl)⟩
              case round =>
                obtain ⟨j, mj, t2, hj, rfl, rfl, rfl, ht2, ht2', Hj⟩ := hrel
                by_cases hinj : j < k
                · obtain ⟨gj, rfl⟩ : ∃ g', gk = g' + 1 := ⟨gk - 1, by omega⟩
                  have hinj' : (j : Int) < (k : Nat) := by omega
                  have hjn : j < P.length := by omega
                  have hjn' : (j : Int) < (P.length : Nat) := by omega
                  obtain ⟨-, ⟨a0, a1⟩, ⟨b0, b1'⟩⟩ := HOP.out k hink
                  obtain ⟨-, ⟨c0, c1⟩, ⟨d0, d1⟩⟩ := HOP.out j hjn
                  obtain ⟨x1, x2⟩ := C3.out k hink
                  obtain ⟨x3, x4⟩ := C3.out j hjn
                  have rj := R3.out j hjn
                  have Hd := Lib.hid (show dif D E P k j = at2 D (at2 P k 0).toNat (at2 P j 0).toNat - at2 E (at2 P k 1).toNat (at2 P j 1).toNat from rfl)
                  have Hst := Lib.hid (show un1 D E P k (gj + 1) j t2 = un1 D E P k gj (j + 1) (dStep D E P k j t2) from rfl)
                  have Hds := Lib.hid (show dStep D E P k j t2 = max (max t2 (dif D E P k j)) (-(dif D E P k j)) from rfl)
                  obtain ⟨a, ea⟩ : ∃ a : Nat, at2 P k 0 = a := ⟨(at2 P k 0).toNat, by omega⟩
                  obtain ⟨b, eb⟩ : ∃ a : Nat, at2 P k 1 = a := ⟨(at2 P k 1).toNat, by omega⟩
                  obtain ⟨c, ec⟩ : ∃ a : Nat, at2 P j 0 = a := ⟨(at2 P j 0).toNat, by omega⟩
                  obtain ⟨d, ed⟩ : ∃ a : Nat, at2 P j 1 = a := ⟨(at2 P j 1).toNat, by omega⟩
                  rw [ea, ec, eb, ed] at Hd
                  rw [ea] at x1 a0 a1
                  rw [eb] at x2 b0 b1'
                  rw [ec] at x3 c0 c1
                  rw [ed] at x4 d0 d1
                  simp only [Int.toNat_natCast] at Hd
                  clear ea eb ec ed
                  have y1 := R1.out a (by omega)
                  have y2 := R2.out b (by omega)
                  have z1 := C1.out a (by omega) c (by omega)
                  have z2 := C2.out b (by omega) d (by omega)
                  have l1 := (L1.out a (by omega)).1
                  have l2 := (L2.out b (by omega)).1
                  have l3 := L3.out k hink
                  have l4 := L3.out j hjn
                  obtain ⟨p1, q1, -, -⟩ := B1.out a (by omega) c (by omega)
                  obtain ⟨p2, q2, -, -⟩ := B2.out b (by omega) d (by omega)
                  obtain ⟨X, hX⟩ : ∃ X, at2 D a c = X := ⟨_, rfl⟩
                  obtain ⟨Y, hY⟩ : ∃ X, at2 E b d = X := ⟨_, rfl⟩
                  rw [hX] at z1 p1 q1 Hd
                  rw [hY] at z2 p2 q2 Hd
                  clear hX hY
                  by_cases g1 : t2 < X - Y
                  · have HN := Lib.hid (show dStep D E P k j t2 = X - Y by rw [Hds.out, Hd.out]; omega)
                    have g2 : ¬ X - Y < -(X - Y) := by omega
                    have g3 : (if t2 < X - Y then X - Y else t2) = X - Y := if_pos g1
                    go_wp2
                    go_quiet (fail)
                    go_wp2
                    go_roundg gj
                    case measure => omega
                    case rel => exact ⟨j + 1, _, X - Y, by omega, by go_num, by first | rfl | go_num, by first | rfl | exact drewN_0 _ | exact drewN_add _ _ _, by omega, by omega, Lib.hid (by rw [← Hj.out, Hst.out, HN.out])⟩
                  · by_cases g2 : t2 < -(X - Y)
                    · have HN := Lib.hid (show dStep D E P k j t2 = -(X - Y) by rw [Hds.out, Hd.out]; omega)
                      have g3 : (if t2 < X - Y then X - Y else t2) = t2 := if_neg g1
                      go_wp2
                      go_quiet (fail)
                      go_wp2
                      go_roundg gj
                      case measure => omega
                      case rel => exact ⟨j + 1, _, -(X - Y), by omega, by go_num, by first | rfl | go_num, by first | rfl | exact drewN_0 _ | exact drewN_add _ _ _, by omega, by omega, Lib.hid (by rw [← Hj.out, Hst.out, HN.out])⟩
                    · have HN := Lib.hid (show dStep D E P k j t2 = t2 by rw [Hds.out, Hd.out]; omega)
                      have g3 : (if t2 < X - Y then X - Y else t2) = t2 := if_neg g1
                      go_wp2
                      go_quiet (fail)
                      go_wp2
                      go_roundg gj
                      case measure => omega
                      case rel => exact ⟨j + 1, _, t2, by omega, by go_num, by first | rfl | go_num, by first | rfl | exact drewN_0 _ | exact drewN_add _ _ _, by omega, by omega, Lib.hid (by rw [← Hj.out, Hst.out, HN.out])⟩
                · have hinj' : ¬ (j : Int) < (k : Nat) := by omega
                  obtain rfl : gk = 0 := by omega
                  have HT := Lib.hid (show t2 = un1 D E P k k 0 t1 from Hj.out)
                  clear Hj
                  go_wp2
                  go_roundg gk
                  case measure => omega
                  case rel => exact ⟨k + 1, _, t2, by omega, by go_num, by first | rfl | go_num, by first | rfl | exact drewN_0 _ | exact drewN_add _ _ _, by omega, by omega, Lib.hid (by rw [← Hk.out, itR, ← HT.out])⟩
            · have hink' : ¬ (k : Int) < (P.length : Nat) := by omega
              obtain rfl : gk = 0 := by omega
              go_wp2
              go_ret
              exact ⟨ret_int (by rw [HF.out, ← Hk.out]; rfl), _, by first | rfl | exact drewN_add _ _ _⟩
end Go.Proofs.Ytpkiodpocggfbaa
