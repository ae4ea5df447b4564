/- What is proved: impl.UnlikeBy at rows of two small numbers. Conditions: those of the contract. -/
import Derived.Test.YtpkiodpocggfbaaUnlS
import Derived.Deep.RegionHeld3
import Derived.Deep.OwnRows
namespace Go.Proofs.Ytpkiodpocggfbaa
open Go.RowKit
theorem infoB : (Try.prog.info? 4).map (fun i => (i.zero, i.size, i.bytes)) = some (some (.bool false), 1, 1) := by kernel_rfl
def IdxB (f : Nat → Bool) (n : Nat) (w : World) (e : Ending) (w' : World) : Prop := ∃ r : Int, e = .returned (.int .i64 r) ∧ (0 ≤ r ↔ allR f n 0 = false) ∧ ∃ m, w' = w.drewN m
set_option maxHeartbeats 1000000 in
theorem indexB_any (b n : Nat) (f : Nat → Bool) (w : World) (h : w.rowIs b 4 n (fun j => .bool (f j))) (hn : n ≤ 6) :
    Calls Try.prog 36 #[.slice (some ⟨b, 0, none⟩) n n, .bool false] w (IdxB f n w) := by
  have HC := Lib.hid (fun i (hi : i < n) => h.cell hi)
  clear h
  have hn' : (n : Int) ≤ 6 := by omega
  go_enter Try.func36, Try.ntmps36
  go_wp2
  go_loopg [8] (n) (fun g s8 wr => ∃ (i m : Nat), i + g = n ∧ s8 = .int .i64 i ∧ wr = w.drewN m ∧ Hid (allR f g i = allR f n 0))
  case atStart => exact ⟨0, _, by omega, rfl, by first | rfl | exact drewN_0 _ | exact drewN_add _ _ _, Lib.hid (rfl)⟩
  case round =>
    obtain ⟨i, mi, hi, rfl, rfl, Hi⟩ := hrel
    by_cases hini : i < n
    · obtain ⟨gi, rfl⟩ : ∃ g', gk = g' + 1 := ⟨gk - 1, by omega⟩
      have hini' : (i : Int) < (n : Nat) := by omega
      have c1 := HC.out i hini
      have Hst := Lib.hid (show allR f (gi + 1) i = (f i && allR f gi (i + 1)) from rfl)
      cases e : f i with
      | false =>
        rw [e] at c1 Hst
        have HF := Lib.hid (show allR f n 0 = false by rw [← Hi.out, Hst.out]; rfl)
        clear e
        go_wp2
        go_ret
        exact ⟨(i : Int), rfl, ⟨fun _ => HF.out, fun _ => by omega⟩, _, by first | rfl | exact drewN_add _ _ _⟩
      | true =>
        rw [e] at c1 Hst
        clear e
        go_wp2
        go_roundg gi
        case measure => omega
        case rel => exact ⟨i + 1, _, by omega, by go_num, by first | rfl | exact drewN_0 _ | exact drewN_add _ _ _, Lib.hid (by rw [← Hi.out, Hst.out]; rfl)⟩
    · have hini' : ¬ (i : Int) < (n : Nat) := by omega
      obtain rfl : gk = 0 := by omega
      have HF := Lib.hid (show allR f n 0 = true by rw [← Hi.out]; rfl)
      clear HC Hi
      go_wp2
      go_ret
      exact ⟨-1, rfl, ⟨fun q => absurd q (by decide), fun q => by rw [HF.out] at q; cases q⟩, _, by first | rfl | exact drewN_add _ _ _⟩
set_option maxHeartbeats 1000000 in
theorem containsB_any (b n : Nat) (f : Nat → Bool) (w : World) (h : w.rowIs b 4 n (fun j => .bool (f j))) (hn : n ≤ 6) :
    Calls Try.prog 30 #[.slice (some ⟨b, 0, none⟩) n n, .bool false] w fun e w' => e = .returned (.bool (!(allR f n 0))) ∧ ∃ m, w' = w.drewN m := by
  have HC := Lib.hid (indexB_any b n f w h hn)
  clear h
  go_enter Try.func30, Try.ntmps30
  go_wp2_with fail
  refine HC.out.mono ?_
  rintro e w1 ⟨r, rfl, hr, m1, rfl⟩
  cases q : allR f n 0 with
  | false =>
    have h0 : 0 ≤ r := hr.2 q
    have HQ := Lib.hid q
    clear hr q
    go_wp2
    go_ret
    exact ⟨ret_bool (by rw [HQ.out]; rfl), _, by first | rfl | exact drewN_add _ _ _⟩
  | true =>
    have h0 : ¬ 0 ≤ r := fun k => by rw [hr.1 k] at q; cases q
    have HQ := Lib.hid q
    have HR0 := Lib.hid h0
    clear hr q
    go_wp2
    go_ret
    exact ⟨ret_bool (by rw [HQ.out, decide_eq_false (show ¬ (0 : Int) ≤ r by have := HR0.out; omega)]; rfl), _, by first | rfl | exact drewN_add _ _ _⟩
theorem or_bit : ∀ s : Fin 64, ∀ a x : Fin 6, decide (bitI (bits .or .i64 (s.val : Int) (2 ^ a.val)) x.val = 1) = (if x.val = a.val then true else decide (bitI (s.val : Int) x.val = 1)) := by decide +kernel
theorem or_lt : ∀ n : Fin 7, ∀ s : Fin 64, ∀ a : Fin 6, s.val < 2 ^ n.val → a.val < n.val → bits .or .i64 (s.val : Int) (2 ^ a.val) < 2 ^ n.val := by decide +kernel
theorem full_bits : ∀ n : Fin 7, ∀ s : Fin 64, s.val < 2 ^ n.val → (allR (fun j => decide (bitI (s.val : Int) j = 1)) n.val 0 = decide ((s.val : Int) = 2 ^ n.val - 1)) := by decide +kernel
theorem or_row {s : Int} {n a : Nat} (h0 : 0 ≤ s) (h1 : s < 2 ^ n) (hn : n ≤ 6) (ha : a < n) :
    (0 ≤ bits .or .i64 s (2 ^ a) ∧ bits .or .i64 s (2 ^ a) < 2 ^ n) ∧ ∀ x, x < n → (if x = a then Value.bool true else Value.bool (decide (bitI s x = 1))) = Value.bool (decide (bitI (bits .or .i64 s (2 ^ a)) x = 1)) := by
  have hp := (pow6 hn).2
  have e : ((2 ^ n : Nat) : Int) = 2 ^ n := by simp
  have h2 := or_lt ⟨n, by omega⟩ ⟨s.toNat, by omega⟩ ⟨a, by omega⟩ (by show s.toNat < 2 ^ n; omega) ha
  simp only [Int.toNat_of_nonneg h0] at h2
  refine ⟨⟨(or_bd h0 (by omega) (by omega)).1, h2⟩, fun x hx => ?_⟩
  have h3 := or_bit ⟨s.toNat, by omega⟩ ⟨a, by omega⟩ ⟨x, by omega⟩
  simp only [Int.toNat_of_nonneg h0] at h3
  rw [h3]
  by_cases q : x = a
  · rw [if_pos q, if_pos q]
  · rw [if_neg q, if_neg q]
theorem row_full {s : Int} {n : Nat} (h0 : 0 ≤ s) (h1 : s < 2 ^ n) (hn : n ≤ 6) : allR (fun j => decide (bitI s j = 1)) n 0 = decide (s = 2 ^ n - 1) := by
  have hp := (pow6 hn).2
  have e : ((2 ^ n : Nat) : Int) = 2 ^ n := by simp
  have h2 := full_bits ⟨n, by omega⟩ ⟨s.toNat, by omega⟩ (by show s.toNat < 2 ^ n; omega)
  simp only [Int.toNat_of_nonneg h0] at h2
  exact h2
theorem rows_two (W : World) (n m : Nat) (T : TypeId) :
    ((W.alloc (.cells (madeCells #[.bool false] n) T)).alloc (.cells (madeCells #[.bool false] m) T)).rowIs W.heap.size T n (fun j => .bool (decide (bitI 0 j = 1))) ∧
    ((W.alloc (.cells (madeCells #[.bool false] n) T)).alloc (.cells (madeCells #[.bool false] m) T)).rowIs (W.heap.size + 1) T m (fun j => .bool (decide (bitI 0 j = 1))) := by
  have z : ∀ j, decide (bitI 0 j = 1) = false := fun j => by unfold bitI; simp
  have h1 := ((World.rowIs_made W (.bool false) n T).alloc (.cells (madeCells #[.bool false] m) T))
  have h2 := (World.rowIs_made (W.alloc (.cells (madeCells #[.bool false] n) T)) (.bool false) m T)
  rw [show (W.alloc (.cells (madeCells #[.bool false] n) T)).heap.size = W.heap.size + 1 by simp] at h2
  exact ⟨h1.congr fun j _ => by rw [z j], h2.congr fun j _ => by rw [z j]⟩
/-- the state of the loop -/
def InvU (D E P : List (List Int)) (w : World) (fb sb g k : Nat) (lf rt : Int) (wr : World) : Prop :=
  Ext w wr ∧ wr.rowIs fb 4 D.length (fun j => .bool (decide (bitI lf j = 1))) ∧ wr.rowIs sb 4 E.length (fun j => .bool (decide (bitI rt j = 1))) ∧
  (0 ≤ lf ∧ lf < 2 ^ D.length) ∧ (0 ≤ rt ∧ rt < 2 ^ E.length) ∧ (∀ i, i < k → (at2 P i 0 < D.length ∧ at2 P i 1 < E.length)) ∧ mskG P 0 g k lf = mskI P 0 ∧ mskG P 1 g k rt = mskI P 1
set_option maxRecDepth 100000 in
set_option maxHeartbeats 8000000 in
theorem iUnlikeBy_any (A : Option Addr) (ca : Nat) (D : List (List Int)) (B : Option Addr) (cb : Nat) (E : List (List Int)) (C : Option Addr) (cc : Nat) (P : List (List Int)) (w : World) (hD : Mat w A ca D) (hE : Mat w B cb E) (hP : Mat w C cc P) (hp : PairP P) :
    Calls Try.prog 17 #[.slice A D.length ca, .slice B E.length cb, .slice C P.length cc] w fun e w' => e = .returned (.int .i64 (unlV D E P)) ∧ Ext w w' := by
  have HMD := Lib.hid hD
  have HME := Lib.hid hE
  have HMP := Lib.hid hP
  have HCD := Lib.hid (fun W (q : Mat W A ca D) => isSpace_any A ca D W q)
  have HCE' := Lib.hid (fun W (q : Mat W B cb E) => isSpace_any B cb E W q)
  have HNO := Lib.hid (unlV_no (D := D) (E := E) (P := P))
  cases hs : spB D with
  | false =>
    have HF := Lib.hid (HNO.out (fun q => absurd (hs.symm.trans q.1) (by decide)))
    rw [hs] at HCD
    clear hs hD hE hP hp HNO
    go_enter Try.func17, Try.ntmps17
    go_wp2_with fail
    refine (HCD.out _ (HMD.out.ext (by repeat (first | exact Ext.refl _ | assumption | apply Ext.drewN' | apply Ext.alloc' | refine Ext.trans ?_ (by assumption))))).mono ?_
    rintro e w1 ⟨rfl, m1, rfl⟩
    go_wp2
    go_ret
    exact ⟨ret_int HF.out.symm, (by repeat (first | exact Ext.refl _ | assumption | apply Ext.drewN' | apply Ext.alloc' | refine Ext.trans ?_ (by assumption)))⟩
  | true =>
  cases ht : spB E with
  | false =>
    have HF := Lib.hid (HNO.out (fun q => absurd (ht.symm.trans q.2.1) (by decide)))
    rw [hs] at HCD
    rw [ht] at HCE'
    clear hs ht hD hE hP hp HNO
    go_enter Try.func17, Try.ntmps17
    go_wp2_with fail
    refine (HCD.out _ (HMD.out.ext (by repeat (first | exact Ext.refl _ | assumption | apply Ext.drewN' | apply Ext.alloc' | refine Ext.trans ?_ (by assumption))))).mono ?_
    rintro e w1 ⟨rfl, m1, rfl⟩
    go_wp2_with fail
    refine (HCE'.out _ (HME.out.ext (by repeat (first | exact Ext.refl _ | assumption | apply Ext.drewN' | apply Ext.alloc' | refine Ext.trans ?_ (by assumption))))).mono ?_
    rintro e w2 ⟨rfl, m2, rfl⟩
    go_wp2
    go_ret
    exact ⟨ret_int HF.out.symm, (by repeat (first | exact Ext.refl _ | assumption | apply Ext.drewN' | apply Ext.alloc' | refine Ext.trans ?_ (by assumption)))⟩
  | true =>
    rw [hs] at HCD
    rw [ht] at HCE'
    obtain ⟨h9, hrows⟩ := hp
    obtain ⟨⟨hn1, hn6⟩, -, -⟩ := farB_parts (spB_far hs)
    obtain ⟨⟨hm1, hm6⟩, -, -⟩ := farB_parts (spB_far ht)
    obtain ⟨b3, o3, rc3, rb3, ro3, hA3, hrow3, hcell3, hlen3⟩ := pair_cells hP fun i hi => (hrows i hi).1
    have R3 := Lib.hid hrow3
    have L3 := Lib.hid hlen3
    have C3 := Lib.hid hcell3
    have HRW := Lib.hid hrows
    have HA3 := Lib.hid hA3
    have HNOK := Lib.hid (fun (q : ¬ okU D E P) => HNO.out (fun k => q k.2.2))
    have HYES := Lib.hid (fun (q : okU D E P) => unlV_yes ⟨hs, ht, q⟩)
    have HUN := Lib.hid (fun (q : okP D E P) W (q1 : Mat W A ca D) (q2 : Mat W B cb E) (q3 : Mat W C cc P) => unlikeBy_any A ca D B cb E C cc P W q1 q2 q3 (spB_far hs) (spB_far ht) q h9)
    have n6' : (D.length : Int) ≤ 6 := by omega
    have m6' : (E.length : Int) ≤ 6 := by omega
    have h9' : ¬ (9 : Int) < (P.length : Nat) := by omega
    have mk1 := run_make_row' (P := Try.prog) 49 4 (.bool false) 1 Try.underlying49 infoB rfl .i64 .i64 D.length (by omega) (by omega)
    have mk2 := run_make_row' (P := Try.prog) 49 4 (.bool false) 1 Try.underlying49 infoB rfl .i64 .i64 E.length (by omega) (by omega)
    clear hs ht hD hE hP hrow3 hlen3 hcell3 hA3 hrows HNO
    go_enter Try.func17, Try.ntmps17
    go_wp2_with fail
    refine (HCD.out _ (HMD.out.ext (by repeat (first | exact Ext.refl _ | assumption | apply Ext.drewN' | apply Ext.alloc' | refine Ext.trans ?_ (by assumption))))).mono ?_
    rintro e w1 ⟨rfl, m1, rfl⟩
    go_wp2_with fail
    refine (HCE'.out _ (HME.out.ext (by repeat (first | exact Ext.refl _ | assumption | apply Ext.drewN' | apply Ext.alloc' | refine Ext.trans ?_ (by assumption))))).mono ?_
    rintro e w2 ⟨rfl, m2, rfl⟩
    clear HCD HCE'
    go_wp2_with fail
    go_region_held3 (fun _ => True) (trivial) (fail)
    · clear mk1 mk2
      go_wp2
      go_loopg [32] P.length (fun g s32 wr => ∃ (k : Nat) (lf rt : Int), k + g = P.length ∧ s32 = .int .i64 k ∧ Hid (InvU D E P w (w.heap.size) (w.heap.size + 1) g k lf rt wr))
      case atStart => exact ⟨0, 0, 0, by omega, rfl, Lib.hid ⟨((Ext.drewN w _).alloc' _).alloc' _, (rows_two (w.drewN _) D.length E.length _).1, (rows_two (w.drewN _) D.length E.length _).2, ⟨by omega, Int.pow_pos (by decide)⟩, ⟨by omega, Int.pow_pos (by decide)⟩, fun i hi => absurd hi (by omega), rfl, rfl⟩⟩
      case round =>
        obtain ⟨k, lf, rt, hk, rfl, HI⟩ := hrel
        obtain ⟨hxr, -, -, -, -, -, -, -⟩ := id HI.out
        by_cases hink : k < P.length
        · obtain ⟨gk', rfl⟩ : ∃ g', gk = g' + 1 := ⟨gk - 1, by omega⟩
          have hink' : (k : Int) < (P.length : Nat) := by omega
          obtain rfl := HA3.out (by omega)
          have rk := hxr.cell (R3.out k hink)
          have l3 := L3.out k hink
          obtain ⟨x1, x2⟩ := C3.out k hink
          replace x1 := hxr.cell x1
          replace x2 := hxr.cell x2
          obtain ⟨-, ⟨a0, a1⟩, ⟨c0, c1⟩⟩ := HRW.out k hink
          have Hs0 := Lib.hid (show mskG P 0 (gk' + 1) k lf = mskG P 0 gk' (k + 1) (bits .or .i64 lf (2 ^ (at2 P k 0).toNat)) from rfl)
          have Hs1 := Lib.hid (show mskG P 1 (gk' + 1) k rt = mskG P 1 gk' (k + 1) (bits .or .i64 rt (2 ^ (at2 P k 1).toNat)) from rfl)
          obtain ⟨a, ea⟩ : ∃ a : Nat, at2 P k 0 = a := ⟨(at2 P k 0).toNat, by omega⟩
          obtain ⟨c, ec⟩ : ∃ a : Nat, at2 P k 1 = a := ⟨(at2 P k 1).toNat, by omega⟩
          have HEA := Lib.hid ea
          have HEC := Lib.hid ec
          rw [ea] at x1 a0 a1 Hs0
          rw [ec] at x2 c0 c1 Hs1
          simp only [Int.toNat_natCast] at Hs0 Hs1
          clear ea ec
          by_cases q1 : a < D.length
          rotate_left
          · have q1' : (D.length : Int) ≤ (a : Nat) := by omega
            have HF := Lib.hid (HNOK.out (fun q => by have := (q.1 k hink).2.1.2; rw [HEA.out] at this; omega))
            clear Hs0 Hs1 HI
            go_wp2
            go_ret
            exact ⟨ret_int HF.out.symm, by first | exact hxr | exact hxr.drewN' _⟩
          have q1' : ¬ (D.length : Int) ≤ (a : Nat) := by omega
          by_cases q2 : c < E.length
          rotate_left
          · have q2' : (E.length : Int) ≤ (c : Nat) := by omega
            have HF := Lib.hid (HNOK.out (fun q => by have := (q.1 k hink).2.2.2; rw [HEC.out] at this; omega))
            clear Hs0 Hs1 HI
            go_wp2
            go_ret
            exact ⟨ret_int HF.out.symm, by first | exact hxr | exact hxr.drewN' _⟩
          · have q2' : ¬ (E.length : Int) ≤ (c : Nat) := by omega
            have q1l : (a : Int) < (D.length : Nat) := by omega
            have q2l : (c : Int) < (E.length : Nat) := by omega
            have FR := Lib.hid HI.out.2.1
            have GR := Lib.hid HI.out.2.2.1
            have f1 := FR.out.cell q1
            have f2 := FR.out.frozen a
            have g1 := (GR.out.setOther (a := ⟨w.heap.size, a, none⟩) (by show w.heap.size + 1 ≠ w.heap.size; omega) (.bool true)).cell q2
            have g2 := (GR.out.setOther (a := ⟨w.heap.size, a, none⟩) (by show w.heap.size + 1 ≠ w.heap.size; omega) (.bool true)).frozen c
            have x3 : (wr.setCell ⟨w.heap.size, a, none⟩ (.bool true)).cell? _ = _ := ((hxr.setCell' (p := ⟨w.heap.size, a, none⟩) (by show w.heap.size ≤ w.heap.size; omega) (.bool true)).cell (C3.out k hink).2).trans (by rw [HEC.out])
            go_wp2
            go_roundg gk'
            case measure => omega
            case rel =>
              obtain ⟨h1, h2, h3, ⟨h4, h5⟩, ⟨h6, h7⟩, h8, h9a, h10⟩ := HI.out
              obtain ⟨⟨u0, u1⟩, u2⟩ := or_row h4 h5 hn6 q1
              obtain ⟨⟨v0, v1⟩, v2⟩ := or_row h6 h7 hm6 q2
              exact ⟨k + 1, _, _, by omega, by go_num, Lib.hid ⟨(h1.setCell' (by show w.heap.size ≤ w.heap.size; omega) _).setCell' (by show w.heap.size ≤ w.heap.size + 1; omega) _, (((h2.set a _).congr u2).setOther (by show w.heap.size ≠ w.heap.size + 1; omega) _), ((h3.setOther (by show w.heap.size + 1 ≠ w.heap.size; omega) _).set c _).congr v2, ⟨u0, u1⟩, ⟨v0, v1⟩, fun i hi => by
                by_cases e : i = k
                · subst e; rw [HEA.out, HEC.out]; omega
                · exact h8 i (by omega), by rw [← Hs0.out]; exact h9a, by rw [← Hs1.out]; exact h10⟩⟩
        · have hink' : ¬ (k : Int) < (P.length : Nat) := by omega
          obtain rfl : gk = 0 := by omega
          obtain ⟨-, h2, h3, ⟨h4, h5⟩, ⟨h6, h7⟩, h8, h9a, h10⟩ := HI.out
          have h9b : lf = mskI P 0 := h9a
          have h10b : rt = mskI P 1 := h10
          have HOP := Lib.hid (show okP D E P from fun i hi => ⟨(HRW.out i hi).1, ⟨(HRW.out i hi).2.1.1, (h8 i (by omega)).1⟩, ⟨(HRW.out i hi).2.2.1, (h8 i (by omega)).2⟩⟩)
          have K1 := Lib.hid (containsB_any (w.heap.size) D.length (fun j => decide (bitI lf j = 1)) wr h2 hn6)
          have K2 := Lib.hid (fun (W : World) (q : W.rowIs (w.heap.size + 1) 4 E.length (fun j => .bool (decide (bitI rt j = 1)))) => containsB_any (w.heap.size + 1) E.length (fun j => decide (bitI rt j = 1)) W q hm6)
          have G3 := Lib.hid h3
          have V1 := Lib.hid (row_full h4 h5 hn6)
          have V2 := Lib.hid (row_full h6 h7 hm6)
          by_cases e1 : lf = 2 ^ D.length - 1
          rotate_left
          · have HF := Lib.hid (HNOK.out (fun q => e1 (by rw [h9b]; exact q.2.1)))
            rw [V1.out, decide_eq_false e1] at K1
            clear h2 h3 h4 h5 h6 h7 h8 h9a h10 h9b h10b HI e1 V1 V2
            go_wp2_with fail
            refine K1.out.mono ?_
            rintro e w5 ⟨rfl, m5, rfl⟩
            go_wp2
            go_ret
            exact ⟨ret_int HF.out.symm, by first | exact hxr | exact hxr.drewN' _⟩
          rw [V1.out, decide_eq_true e1] at K1
          by_cases e2 : rt = 2 ^ E.length - 1
          rotate_left
          · have HF := Lib.hid (HNOK.out (fun q => e2 (by rw [h10b]; exact q.2.2)))
            have K3 := Lib.hid (K2.out (wr.drewN 0) G3.out)
            have K4 := Lib.hid (fun m => K2.out (wr.drewN m) G3.out)
            rw [V2.out, decide_eq_false e2] at K4
            clear h2 h3 h4 h5 h6 h7 h8 h9a h10 h9b h10b HI e1 e2 V1 V2 K2 K3
            go_wp2_with fail
            refine K1.out.mono ?_
            rintro e w5 ⟨rfl, m5, rfl⟩
            go_wp2_with fail
            refine (K4.out m5).mono ?_
            rintro e w6 ⟨rfl, m6, rfl⟩
            go_wp2
            go_ret
            exact ⟨ret_int HF.out.symm, by first | exact hxr | exact hxr.drewN' _⟩
          · have HF := Lib.hid (HYES.out ⟨HOP.out, by rw [← h9b]; exact e1, by rw [← h10b]; exact e2⟩)
            have K4 := Lib.hid (fun m => K2.out (wr.drewN m) G3.out)
            rw [V2.out, decide_eq_true e2] at K4
            clear h2 h3 h4 h5 h6 h7 h8 h9a h10 h9b h10b HI e1 e2 V1 V2 K2
            go_wp2_with fail
            refine K1.out.mono ?_
            rintro e w5 ⟨rfl, m5, rfl⟩
            go_wp2_with fail
            refine (K4.out m5).mono ?_
            rintro e w6 ⟨rfl, m6, rfl⟩
            go_wp2_with fail
            refine (HUN.out HOP.out _ (HMD.out.ext (hxr.drewN' _)) (HME.out.ext (hxr.drewN' _)) (HMP.out.ext (hxr.drewN' _))).mono ?_
            rintro e w7 ⟨rfl, m7, rfl⟩
            go_wp2
            go_ret
            exact ⟨ret_int HF.out.symm, by first | exact hxr | exact hxr.drewN' _⟩
    · clear mk1 mk2
      go_wp2
      go_loopg [32] P.length (fun g s32 wr => ∃ (k : Nat) (lf rt : Int), k + g = P.length ∧ s32 = .int .i64 k ∧ Hid (InvU D E P w (w.heap.size + 1) (w.heap.size) g k lf rt wr))
      case atStart => exact ⟨0, 0, 0, by omega, rfl, Lib.hid ⟨((Ext.drewN w _).alloc' _).alloc' _, (rows_two (w.drewN _) E.length D.length _).2, (rows_two (w.drewN _) E.length D.length _).1, ⟨by omega, Int.pow_pos (by decide)⟩, ⟨by omega, Int.pow_pos (by decide)⟩, fun i hi => absurd hi (by omega), rfl, rfl⟩⟩
      case round =>
        obtain ⟨k, lf, rt, hk, rfl, HI⟩ := hrel
        obtain ⟨hxr, -, -, -, -, -, -, -⟩ := id HI.out
        by_cases hink : k < P.length
        · obtain ⟨gk', rfl⟩ : ∃ g', gk = g' + 1 := ⟨gk - 1, by omega⟩
          have hink' : (k : Int) < (P.length : Nat) := by omega
          obtain rfl := HA3.out (by omega)
          have rk := hxr.cell (R3.out k hink)
          have l3 := L3.out k hink
          obtain ⟨x1, x2⟩ := C3.out k hink
          replace x1 := hxr.cell x1
          replace x2 := hxr.cell x2
          obtain ⟨-, ⟨a0, a1⟩, ⟨c0, c1⟩⟩ := HRW.out k hink
          have Hs0 := Lib.hid (show mskG P 0 (gk' + 1) k lf = mskG P 0 gk' (k + 1) (bits .or .i64 lf (2 ^ (at2 P k 0).toNat)) from rfl)
          have Hs1 := Lib.hid (show mskG P 1 (gk' + 1) k rt = mskG P 1 gk' (k + 1) (bits .or .i64 rt (2 ^ (at2 P k 1).toNat)) from rfl)
          obtain ⟨a, ea⟩ : ∃ a : Nat, at2 P k 0 = a := ⟨(at2 P k 0).toNat, by omega⟩
          obtain ⟨c, ec⟩ : ∃ a : Nat, at2 P k 1 = a := ⟨(at2 P k 1).toNat, by omega⟩
          have HEA := Lib.hid ea
          have HEC := Lib.hid ec
          rw [ea] at x1 a0 a1 Hs0
          rw [ec] at x2 c0 c1 Hs1
          simp only [Int.toNat_natCast] at Hs0 Hs1
          clear ea ec
          by_cases q1 : a < D.length
          rotate_left
          · have q1' : (D.length : Int) ≤ (a : Nat) := by omega
            have HF := Lib.hid (HNOK.out (fun q => by have := (q.1 k hink).2.1.2; rw [HEA.out] at this; omega))
            clear Hs0 Hs1 HI
            go_wp2
            go_ret
            exact ⟨ret_int HF.out.symm, by first | exact hxr | exact hxr.drewN' _⟩
          have q1' : ¬ (D.length : Int) ≤ (a : Nat) := by omega
          by_cases q2 : c < E.length
          rotate_left
          · have q2' : (E.length : Int) ≤ (c : Nat) := by omega
            have HF := Lib.hid (HNOK.out (fun q => by have := (q.1 k hink).2.2.2; rw [HEC.out] at this; omega))
            clear Hs0 Hs1 HI
            go_wp2
            go_ret
            exact ⟨ret_int HF.out.symm, by first | exact hxr | exact hxr.drewN' _⟩
          · have q2' : ¬ (E.length : Int) ≤ (c : Nat) := by omega
            have q1l : (a : Int) < (D.length : Nat) := by omega
            have q2l : (c : Int) < (E.length : Nat) := by omega
            have FR := Lib.hid HI.out.2.1
            have GR := Lib.hid HI.out.2.2.1
            have f1 := FR.out.cell q1
            have f2 := FR.out.frozen a
            have g1 := (GR.out.setOther (a := ⟨w.heap.size + 1, a, none⟩) (by show w.heap.size ≠ w.heap.size + 1; omega) (.bool true)).cell q2
            have g2 := (GR.out.setOther (a := ⟨w.heap.size + 1, a, none⟩) (by show w.heap.size ≠ w.heap.size + 1; omega) (.bool true)).frozen c
            have x3 : (wr.setCell ⟨w.heap.size + 1, a, none⟩ (.bool true)).cell? _ = _ := ((hxr.setCell' (p := ⟨w.heap.size + 1, a, none⟩) (by show w.heap.size ≤ w.heap.size + 1; omega) (.bool true)).cell (C3.out k hink).2).trans (by rw [HEC.out])
            go_wp2
            go_roundg gk'
            case measure => omega
            case rel =>
              obtain ⟨h1, h2, h3, ⟨h4, h5⟩, ⟨h6, h7⟩, h8, h9a, h10⟩ := HI.out
              obtain ⟨⟨u0, u1⟩, u2⟩ := or_row h4 h5 hn6 q1
              obtain ⟨⟨v0, v1⟩, v2⟩ := or_row h6 h7 hm6 q2
              exact ⟨k + 1, _, _, by omega, by go_num, Lib.hid ⟨(h1.setCell' (by show w.heap.size ≤ w.heap.size + 1; omega) _).setCell' (by show w.heap.size ≤ w.heap.size; omega) _, (((h2.set a _).congr u2).setOther (by show w.heap.size + 1 ≠ w.heap.size; omega) _), ((h3.setOther (by show w.heap.size ≠ w.heap.size + 1; omega) _).set c _).congr v2, ⟨u0, u1⟩, ⟨v0, v1⟩, fun i hi => by
                by_cases e : i = k
                · subst e; rw [HEA.out, HEC.out]; omega
                · exact h8 i (by omega), by rw [← Hs0.out]; exact h9a, by rw [← Hs1.out]; exact h10⟩⟩
        · have hink' : ¬ (k : Int) < (P.length : Nat) := by omega
          obtain rfl : gk = 0 := by omega
          obtain ⟨-, h2, h3, ⟨h4, h5⟩, ⟨h6, h7⟩, h8, h9a, h10⟩ := HI.out
          have h9b : lf = mskI P 0 := h9a
          have h10b : rt = mskI P 1 := h10
          have HOP := Lib.hid (show okP D E P from fun i hi => ⟨(HRW.out i hi).1, ⟨(HRW.out i hi).2.1.1, (h8 i (by omega)).1⟩, ⟨(HRW.out i hi).2.2.1, (h8 i (by omega)).2⟩⟩)
          have K1 := Lib.hid (containsB_any (w.heap.size + 1) D.length (fun j => decide (bitI lf j = 1)) wr h2 hn6)
          have K2 := Lib.hid (fun (W : World) (q : W.rowIs (w.heap.size) 4 E.length (fun j => .bool (decide (bitI rt j = 1)))) => containsB_any (w.heap.size) E.length (fun j => decide (bitI rt j = 1)) W q hm6)
          have G3 := Lib.hid h3
          have V1 := Lib.hid (row_full h4 h5 hn6)
          have V2 := Lib.hid (row_full h6 h7 hm6)
          by_cases e1 : lf = 2 ^ D.length - 1
          rotate_left
          · have HF := Lib.hid (HNOK.out (fun q => e1 (by rw [h9b]; exact q.2.1)))
            rw [V1.out, decide_eq_false e1] at K1
            clear h2 h3 h4 h5 h6 h7 h8 h9a h10 h9b h10b HI e1 V1 V2
            go_wp2_with fail
            refine K1.out.mono ?_
            rintro e w5 ⟨rfl, m5, rfl⟩
            go_wp2
            go_ret
            exact ⟨ret_int HF.out.symm, by first | exact hxr | exact hxr.drewN' _⟩
          rw [V1.out, decide_eq_true e1] at K1
          by_cases e2 : rt = 2 ^ E.length - 1
          rotate_left
          · have HF := Lib.hid (HNOK.out (fun q => e2 (by rw [h10b]; exact q.2.2)))
            have K3 := Lib.hid (K2.out (wr.drewN 0) G3.out)
            have K4 := Lib.hid (fun m => K2.out (wr.drewN m) G3.out)
            rw [V2.out, decide_eq_false e2] at K4
            clear h2 h3 h4 h5 h6 h7 h8 h9a h10 h9b h10b HI e1 e2 V1 V2 K2 K3
            go_wp2_with fail
            refine K1.out.mono ?_
            rintro e w5 ⟨rfl, m5, rfl⟩
            go_wp2_with fail
            refine (K4.out m5).mono ?_
            rintro e w6 ⟨rfl, m6, rfl⟩
            go_wp2
            go_ret
            exact ⟨ret_int HF.out.symm, by first | exact hxr | exact hxr.drewN' _⟩
          · have HF := Lib.hid (HYES.out ⟨HOP.out, by rw [← h9b]; exact e1, by rw [← h10b]; exact e2⟩)
            have K4 := Lib.hid (fun m => K2.out (wr.drewN m) G3.out)
            rw [V2.out, decide_eq_true e2] at K4
            clear h2 h3 h4 h5 h6 h7 h8 h9a h10 h9b h10b HI e1 e2 V1 V2 K2
            go_wp2_with fail
            refine K1.out.mono ?_
            rintro e w5 ⟨rfl, m5, rfl⟩
            go_wp2_with fail
            refine (K4.out m5).mono ?_
            rintro e w6 ⟨rfl, m6, rfl⟩
            go_wp2_with fail
            refine (HUN.out HOP.out _ (HMD.out.ext (hxr.drewN' _)) (HME.out.ext (hxr.drewN' _)) (HMP.out.ext (hxr.drewN' _))).mono ?_
            rintro e w7 ⟨rfl, m7, rfl⟩
            go_wp2
            go_ret
            exact ⟨ret_int HF.out.symm, by first | exact hxr | exact hxr.drewN' _⟩
end Go.Proofs.Ytpkiodpocggfbaa
