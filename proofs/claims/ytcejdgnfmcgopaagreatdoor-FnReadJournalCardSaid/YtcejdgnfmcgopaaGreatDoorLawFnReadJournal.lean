/- What is proved: the walk of the law FnReadJournal (if l20Deed draws a deed). Conditions: those of the contract. -/
import Derived.Test.YtcejdgnfmcgopaaGreatDoorDrRj
import Derived.Test.YtcejdgnfmcgopaaGreatDoorJr
import Derived.Test.YtcejdgnfmcgopaaGreatDoorSds
import Derived.Test.YtcejdgnfmcgopaaGreatDoorRun
import Derived.Test.YtcejdgnfmcgopaaGreatDoorRunP
import Derived.Test.YtcejdgnfmcgopaaGreatDoorDrRun
import Derived.Test.YtcejdgnfmcgopaaGreatDoorLn
import Derived.Test.YtcejdgnfmcgopaaGreatDoorJt
import Derived.Test.YtcejdgnfmcgopaaGreatDoorLawFnDeskDo
import Derived.Test.YtcejdgnfmcgopaaGreatDoorLawFnDeskRun
import Derived.Test.YtcejdgnfmcgopaaGreatDoorAlive
import Derived.Deep.CutBlock
import Derived.Test.YtcejdgnfmcgopaaGreatDoorQx
namespace Go.Proofs.YtcejdgnfmcgopaaGreatDoor
open Go.RowKit
/-- the desk that is now, in the block behind w -/
def NowS (w : World) (D : List (List Int)) (L : List (List (List Int))) (W : World) : Prop :=
  Ext w W ∧ ∃ A c B d, W.heap[w.heap.size]? = some (.cells #[.slice A D.length c, .slice B L.length d] 26 (0, 0)) ∧ Mat W A c D ∧ MatS W B d L
theorem NowS.ext {w W W' : World} {D : List (List Int)} {L : List (List (List Int))} (h : NowS w D L W) (k : Ext W W') : NowS w D L W' := by
  obtain ⟨h1, A, c, B, d, h2, h3, h4⟩ := h
  exact ⟨h1.trans k, A, c, B, d, (k.block (heap_lt h2)).trans h2, h3.ext k, h4.ext k⟩
theorem own_mats {b : Nat} {W : World} {A B : Option Addr} {c d : Nat} {D : List (List Int)} {L : List (List (List Int))} (h : OwnDk b W (.agg #[.slice A D.length c, .slice B L.length d]) D L) : Mat W A c D ∧ MatS W B d L := by
  obtain ⟨Aq, cq, Bq, dq, eq, m1q, m2q, -, -⟩ := h.split
  simp only [Value.agg.injEq, Array.mk.injEq, List.cons.injEq, Value.slice.injEq] at eq
  obtain ⟨⟨rfl, -, rfl⟩, ⟨rfl, -, rfl⟩, -⟩ := eq
  exact ⟨m1q, m2q⟩
theorem NowS.take {w W W' : World} {D D' : List (List Int)} {L L' : List (List (List Int))} (h : NowS w D L W) (k : Ext W W') {b : Nat} {A B : Option Addr} {c d : Nat} (hO : OwnDk b W' (.agg #[.slice A D'.length c, .slice B L'.length d]) D' L') :
    NowS w D' L' ((W'.setCell ⟨w.heap.size, 0, none⟩ (.slice A D'.length c)).setCell ⟨w.heap.size, 1, none⟩ (.slice B L'.length d)) := by
  obtain ⟨h1, A0, c0, B0, d0, h2, -, -⟩ := h
  have b2 := (k.block (heap_lt h2)).trans h2
  obtain ⟨m1, m2⟩ := own_mats (hO.keep (keepB_set2 b2 (.slice A D'.length c) (.slice B L'.length d)).2.2.2.2.2.2)
  exact ⟨((h1.trans k).setCell' (p := ⟨w.heap.size, 0, none⟩) (Nat.le_refl _) _).setCell' (p := ⟨w.heap.size, 1, none⟩) (Nat.le_refl _) _, A, c, B, d, set_1 (set_0 b2), m1, m2⟩
/-- a desk of one's own stored in a new block -/
theorem own_stored2 {w8 wc w10 wf : World} {m10 : Nat} {A B : Option Addr} {c d : Nat} {D : List (List Int)} {L : List (List (List Int))} (hx : Ext w8 wc) (hX : Ext wc w10) (hO : OwnDk wc.heap.size w10 (.agg #[.slice A D.length c, .slice B L.length d]) D L)
    (hm : ∃ wz, Ext w10 wz ∧ wz.heap[m10]? = some (.cells #[.slice none 0 0, .slice none 0 0] 26 (0, 0)) ∧ wf = (wz.setCell ⟨m10, 0, none⟩ (.slice A D.length c)).setCell ⟨m10, 1, none⟩ (.slice B L.length d)) (hm10 : w8.heap.size ≤ m10) :
    Ext w8 wf ∧ wf.heap[m10]? = some (.cells #[.slice A D.length c, .slice B L.length d] 26 (0, 0)) ∧ OwnDk w8.heap.size wf (.agg #[.slice A D.length c, .slice B L.length d]) D L := by
  obtain ⟨wz, hz1, hz2, rfl⟩ := hm
  exact ⟨(((hx.trans hX).trans hz1).setCell' (p := ⟨m10, 0, none⟩) hm10 _).setCell' (p := ⟨m10, 1, none⟩) hm10 _, set_1 (set_0 hz2), ((hO.keep (KeepB.of_ext hz1)).keep (keepB_set2 hz2 (.slice A D.length c) (.slice B L.length d)).2.2.2.2.2.2).low hx.size⟩
set_option maxHeartbeats 1000000 in
theorem iDeedText_j (kd : Int) (A : Option Addr) (c : Nat) (xs : List Int) (w : World) (h : Ints w A c xs) (hn : Names w) (hl : xs.length ≤ 1048576) :
    Calls Tryz.prog 33 #[.agg #[.int .i64 kd, .slice A xs.length c]] w fun e w' => e = .returned (tx (dtx kd xs)) ∧ Ext w w' := by
  have HC := Lib.hid (fun W (q : Ext w W) => deedText_any kd A c xs W (h.ext q) (hn.ext q) (by omega))
  clear h hn
  go_enter Tryz.func33, Tryz.ntmps33
  go_wp2_with fail
  refine (HC.out _ (by repeat (first | exact Ext.refl _ | apply Ext.alloc'))).mono ?_
  rintro e w1 ⟨rfl, hx1⟩
  go_wp2
  go_ret
  exact ⟨rfl, Ext.trans (by repeat (first | exact Ext.refl _ | apply Ext.alloc')) hx1⟩
theorem jL_len : ∀ {ds : List (Int × List Int)}, ds.length ≤ (jL ds).length
  | [] => Nat.zero_le _
  | a :: ds => by
    have := jL_len (ds := ds)
    have e : jL (a :: ds) = dtx a.1 a.2 ++ 10 :: jL ds := by simp [jL]
    rw [e, List.length_append, List.length_cons, List.length_cons]
    omega
theorem dti_six {k : Int} {xs : List Int} (h : dtx k xs ≠ []) : xs.length ≤ 6 := by
  obtain ⟨hb, -, -, -⟩ := dtx_parts (L := dtx k xs) rfl h
  unfold dtB at hb
  simp only [Bool.and_eq_true, Bool.or_eq_true, decide_eq_true_eq] at hb
  omega
theorem do_no {D : List (List Int)} {L : List (List (List Int))} {kind : Int} {xs : List Int} (h : doB D L kind xs = false) : doD D L kind xs = D ∧ doL D L kind xs = L := by
  have hb : ¬ doB D L kind xs = true := by rw [h]; simp
  unfold doD doL
  by_cases q : kind = 4 ∧ xs.length = 0
  · rw [if_pos q, if_pos q]
    have h1 : decide (0 < L.length) = false := by
      unfold doB at h
      rw [if_pos q] at h
      exact h
    have h0 : L.length = 0 := by have := of_decide_eq_false h1; omega
    have hL : L = [] := List.eq_nil_of_length_eq_zero h0
    rw [if_neg (by omega), hL]
    exact ⟨rfl, rfl⟩
  · rw [if_neg q, if_neg q, if_neg hb, if_neg hb]
    exact ⟨rfl, rfl⟩
theorem sl_to {A : Option Addr} {n c m : Nat} (h1 : m ≤ n) (h2 : n ≤ c) (W : World) : (Instr.slice 47 (.slice A n c) none (some (.int .i64 (m : Int))) none).run Tryz.prog W = .ok (.slice A m c) W := by
  have k1 : (0 : Int) ≤ (m : Nat) := by omega
  have k2 : (m : Int) ≤ (c : Nat) := by omega
  have k3 : (m : Int) ≤ (n : Nat) := by omega
  have hu := Tryz.underlying47
  cases A with
  | none => go_simp
  | some a => go_simp
set_option maxRecDepth 100000 in
set_option maxHeartbeats 8000000 in
theorem FnReadJournal_walk (hDeed : DeedAny) (A : Option Addr) (n c : Nat) (A9 : Option Addr) (n9 c9 : Nat) (w : World) (h : Byt w A n c) (h9 : Byt w A9 n9 c9) (hE : Env w) :
    Calls Tryz.prog 6 #[.slice A n c, .slice A9 n9 c9] w fun e w' => e = .returned (.bool true) ∧ Ext w w' := by
  by_cases hz : 1048576 < n
  · have hz' : (1048576 : Int) < (n : Nat) := by omega
    go_enter Tryz.func6, Tryz.ntmps6
    go_wp2
    go_ret
    exact ⟨rfl, (by repeat (first | exact Ext.refl _ | assumption | apply Ext.drewN' | apply Ext.alloc' | refine Ext.trans ?_ (by assumption)))⟩
  have hz' : ¬ (1048576 : Int) < (n : Nat) := by omega
  by_cases hy : 1048576 < n9
  · have hy' : (1048576 : Int) < (n9 : Nat) := by omega
    go_enter Tryz.func6, Tryz.ntmps6
    go_wp2
    go_ret
    exact ⟨rfl, (by repeat (first | exact Ext.refl _ | assumption | apply Ext.drewN' | apply Ext.alloc' | refine Ext.trans ?_ (by assumption)))⟩
  have hy' : ¬ (1048576 : Int) < (n9 : Nat) := by omega
  have HE := Lib.hid (fun W (q : Ext w W) => hE.ext q)
  have H9 := Lib.hid (fun W (q : Ext w W) => h9.ext q)
  have HDR := Lib.hid (drawReadJournal_any hDeed A n c w h)
  clear h h9 hE
  go_enter Tryz.func6, Tryz.ntmps6
  go_wp2_with fail
  refine HDR.out.mono ?_
  rintro e w1 ⟨R, rfl, hR, hx1⟩
  have HX1 := Lib.hid hx1
  have HIR := Lib.hid (fun W (q : Ext w1 W) (k : Nat) => iReadJournal_any (R.take k) W (by rw [List.length_take]; omega) (HE.out W (HX1.out.trans q)))
  have HSR0 := fun W => sReadJournal_any R W (by omega)
  have hjj : jr (R.length + 1) R = jn R := rfl
  rw [hjj] at HSR0
  obtain ⟨hAT, hJL, hJle⟩ := jL_jn R.length R (Nat.le_refl _)
  have hJT := jtx_jn R
  have HPRE := Lib.hid (fun k => And.intro (jn_pre R.length R k (Nat.le_refl _)) (jn_pre_le R k))
  have hlen1 := jL_len (ds := (jn R).1)
  rw [hJL] at hlen1
  have hlen2 : (jn R).1.length ≤ 2000 := by rw [List.length_take] at hlen1; omega
  have HIR0 := HIR.out
  have hIR1 := fun W (q : Ext w1 W) => HIR0 W q R.length
  rw [List.take_length] at hIR1
  obtain ⟨⟨ds, N⟩, hds⟩ : ∃ d, jn R = d := ⟨_, rfl⟩
  rw [hds] at HSR0 hAT hJle hJT HPRE hlen2 hIR1
  simp only at HSR0 hAT hJle hJT HPRE hlen2 hIR1
  have HSR := Lib.hid HSR0
  have HI1 := Lib.hid hIR1
  have HAT := Lib.hid hAT
  have HJT := Lib.hid hJT
  have hrsz := tx_size R
  clear HDR hx1 HSR0 hjj hAT hJL hJT hlen1 HIR0 hIR1 hds
  unfold tx
  go_wp2_with fail
  refine (HI1.out _ (Ext.refl _)).mono ?_
  rintro e w2 ⟨v2, rfl, ⟨V2, hO2⟩, hx2⟩
  obtain ⟨A2, c2, rfl, hD2⟩ := hO2.deeds
  have hc2a := hD2.1
  have hc2b := hD2.2.1
  have HD2 := Lib.hid (fun W (q : Ext w2 W) => hD2.ext q)
  have HX2 := Lib.hid hx2
  clear hO2 hD2 hx2
  go_wp2_with fail
  refine (HSR.out _).mono ?_
  rintro e w3 ⟨v3, rfl, ⟨V3, hO3⟩, hx3⟩
  obtain ⟨A3, c3, rfl, hD3⟩ := hO3.deeds
  have HSD := Lib.hid (sameDeeds_any A2 A3 c2 c3 ds w3 (HD2.out _ hx3) hD3)
  have HX3 := Lib.hid hx3
  clear hO3 hD3 hx3
  go_wp2_with fail
  refine HSD.out.mono ?_
  rintro e w4 ⟨rfl, hx4⟩
  have HX4 := Lib.hid (HX2.out.trans (HX3.out.trans hx4))
  have HX24 := Lib.hid (HX3.out.trans hx4)
  clear hx4
  go_wp2_with fail
  go_loopg [10] (R.length + 1) (fun g s10 wr => ∃ (k : Nat), k + g = R.length + 1 ∧ s10 = .int .i64 k ∧ Hid (Ext w4 wr))
  case atStart => exact ⟨0, by omega, rfl, Lib.hid (Ext.refl _)⟩
  case round =>
    obtain ⟨k, hk, rfl, HW⟩ := hrel
    by_cases hin : k < R.length + 1
    · obtain ⟨g1, rfl⟩ : ∃ g', gk = g' + 1 := ⟨gk - 1, by omega⟩
      have hin' : (k : Int) ≤ (R.length : Nat) := by omega
      have hsl := slice_to (L := R) (a := k) (by omega)
      have HP := HPRE.out k
      have HI := HIR.out wr (HX4.out.trans HW.out) k
      obtain ⟨U, hU⟩ : ∃ U, R.take k = U := ⟨_, rfl⟩
      rw [hU] at hsl HP HI
      obtain ⟨⟨es, M⟩, hes⟩ : ∃ d, jn U = d := ⟨_, rfl⟩
      rw [hes] at HP HI
      simp only at HP HI
      obtain ⟨⟨p1, p2⟩, p3⟩ := HP
      have HI' := Lib.hid HI
      have HP2 := Lib.hid p2
      unfold tx at hsl
      clear hU hes HI p2
      go_wp2_with fail
      refine HI'.out.mono ?_
      rintro e w5 ⟨v5, rfl, ⟨V5, hO5⟩, hx5⟩
      obtain ⟨A5, c5, rfl, hD5⟩ := hO5.deeds
      have hl5 : (ds.take es.length).length = es.length := by rw [List.length_take]; omega
      have hq := sameDeeds_any A5 A2 c5 c2 es w5 hD5 (by
        have := ((HD2.out _ (HX24.out.trans (HW.out.trans hx5))).take p1).1
        rw [← HP2.out] at this
        exact this)
      have HQ := Lib.hid hq
      have HX5 := Lib.hid (HW.out.trans hx5)
      have hst := sl_to (A := A2) p1 hc2a
      have hmin : (if (ds.length : Int) < (es.length : Nat) then (ds.length : Int) else (es.length : Nat)) = (es.length : Nat) := if_neg (by omega)
      have hmin2 : min (es.length : Int) (ds.length : Nat) = (es.length : Nat) := by omega
      have n1 : ¬ (ds.length : Int) < (es.length : Nat) := by omega
      have n2 : ¬ (k : Int) < (M : Nat) := by omega
      clear hO5 hD5 hx5 hq hl5
      go_wp2_with fail
      refine HQ.out.mono ?_
      rintro e w6 ⟨rfl, hx6⟩
      go_wp2_with fail
      go_roundg g1
      case measure => omega
      case rel => exact ⟨k + 1, by omega, by go_num, Lib.hid (HX5.out.trans hx6)⟩
    · have hin' : ¬ (k : Int) ≤ (R.length : Nat) := by omega
      obtain rfl : gk = 0 := by omega
      have HX6 := Lib.hid (HX4.out.trans HW.out)
      have HX26 := Lib.hid (HX24.out.trans HW.out)
      obtain ⟨w6, hw6⟩ : ∃ W, W = wr := ⟨_, rfl⟩
      subst hw6
      have HDK := Lib.hid (drawDeskRun_any hDeed A9 n9 c9 w6 (H9.out w6 (HX1.out.trans HX6.out)))
      clear HW hin hk
      go_wp2_with fail
      refine HDK.out.mono ?_
      rintro e w7 ⟨A7, c7, B7, d7, D, L, _, x7, es, rfl, hM, hS, -, -, -, hx7⟩
      have HM := Lib.hid (fun W (q : Ext w7 W) => hM.ext q)
      have HS := Lib.hid (fun W (q : Ext w7 W) => hS.ext q)
      have HX7 := Lib.hid (HX26.out.trans hx7)
      have HX17 := Lib.hid (HX6.out.trans hx7)
      clear hM hS hx7 HDK
      obtain ⟨w8, hw8⟩ : ∃ W, w7.alloc (.cells #[.slice A7 D.length c7, .slice B7 L.length d7] 26) = W := ⟨_, rfl⟩
      have hx8 : Ext w7 w8 := by rw [← hw8]; exact Ext.alloc _ _
      have hb8 := heap_alloc_new w7 (.cells #[.slice A7 D.length c7, .slice B7 L.length d7] 26)
      rw [hw8] at hb8
      have HB8 := Lib.hid (fun W (q : Ext w8 W) => two_cells ((q.block (heap_lt hb8)).trans hb8))
      obtain ⟨p0, p1⟩ := HB8.out w8 (Ext.refl _)
      have HX8 := Lib.hid hx8
      clear hb8 hx8
      have HSO := Lib.hid (fun W (q : Ext w7 W) => sDeskOk_any A7 B7 c7 d7 D L W (HM.out W q) (HS.out W q))
      go_upto_block 2 with fail
      go_cut [16] (fun s16 wx => ∃ D' L', Hid (NowS w8 D' L' wx) ∧ Hid (deskB D L = true → D' = (runR ds ds.length 0 D L 0).1 ∧ L' = (runR ds ds.length 0 D L 0).2.1))
      case first =>
        have HN0 := Lib.hid (show NowS w8 D L (w8.alloc (.cells #[.slice A7 D.length c7, .slice B7 L.length d7] 26)) from ⟨Ext.alloc _ _, A7, c7, B7, d7, heap_alloc_new _ _, HM.out _ (HX8.out.alloc' _), HS.out _ (HX8.out.alloc' _)⟩)
        cases hd : deskB D L with
        | false =>
          rw [hd] at HSO
          have HDF := Lib.hid hd
          clear hd
          obtain ⟨q0, q1⟩ := HB8.out (w8.alloc (.cells #[.slice A7 D.length c7, .slice B7 L.length d7] 26)) (Ext.alloc _ _)
          by_cases h0 : 0 < ds.length
          · have h0' : (0 : Int) < (ds.length : Nat) := by omega
            go_wp2_with fail
            refine wp_loop_once ?_
            go_wp2_with fail
            refine (HSO.out _ (HX8.out.alloc' _)).mono ?_
            rintro e w9 ⟨rfl, hx9⟩
            go_wp2_with fail
            go_meet
            case rel => exact ⟨D, L, Lib.hid (HN0.out.ext hx9), Lib.hid (fun q => absurd (HDF.out.symm.trans q) (by decide))⟩
          · have h0' : ¬ (0 : Int) < (ds.length : Nat) := by omega
            go_wp2_with fail
            refine wp_loop_once ?_
            go_wp2_with fail
            go_meet
            case rel => exact ⟨D, L, HN0, Lib.hid (fun q => absurd (HDF.out.symm.trans q) (by decide))⟩
        | true =>
          rw [hd] at HSO
          have HDB := Lib.hid hd
          clear hd
          go_wp2_with fail
          go_loopg [16] ds.length (fun g s16 wr => ∃ (k : Nat) (D' : List (List Int)) (L' : List (List (List Int))), k + g = ds.length ∧ s16 = .int .i64 k ∧ Hid (deskB D' L' = true ∧ ∃ m, runR ds g k D' L' m = runR ds ds.length 0 D L 0) ∧ Hid (NowS w8 D' L' wr))
          case atStart => exact ⟨0, D, L, by omega, rfl, Lib.hid ⟨HDB.out, 0, rfl⟩, HN0⟩
          case round =>
            clear HN0
            obtain ⟨k, D', L', hk, rfl, HI, HW⟩ := hrel
            by_cases hin : k < ds.length
            · obtain ⟨g1, rfl⟩ : ∃ g', gk = g' + 1 := ⟨gk - 1, by omega⟩
              have hin' : (k : Int) < (ds.length : Nat) := by omega
              have hX8r : Ext w8 wr := HW.out.1
              obtain ⟨q0, q1⟩ := HB8.out wr hX8r
              have HX8r := Lib.hid hX8r
              clear hX8r
              go_wp2_with fail
              refine (HSO.out _ (HX8.out.trans HX8r.out)).mono ?_
              rintro e wq ⟨rfl, hxq⟩
              have HWq := Lib.hid (HW.out.ext hxq)
              have hX8q : Ext w8 wq := HWq.out.1
              have hX2q : Ext w2 wq := HX7.out.trans (HX8.out.trans hX8q)
              have hX1q : Ext w1 wq := HX17.out.trans (HX8.out.trans hX8q)
              obtain ⟨bX, oX, RX, rX, hAX, hkX, hxX, hiX⟩ := (HD2.out wq hX2q).parts
              obtain rfl := hAX (by omega)
              have r1 := hkX k hin
              have r2 := hxX k hin
              have r3 := hiX k hin
              have hne := allT_iff.1 HAT.out k hin
              change dtx (dk ds k) (dx ds k) ≠ [] at hne
              have hst : ∀ g m, runR ds (g + 1) k D' L' m = if doB D' L' (dk ds k) (dx ds k) = true then runR ds g (k + 1) (doD D' L' (dk ds k) (dx ds k)) (doL D' L' (dk ds k) (dx ds k)) (m + 1) else runR ds g (k + 1) D' L' m := fun g m => rfl
              have hsame := fun (q : doB D' L' (dk ds k) (dx ds k) = false) => do_no (kind := dk ds k) (xs := dx ds k) q
              obtain ⟨kd, hkd⟩ : ∃ x, dk ds k = x := ⟨_, rfl⟩
              obtain ⟨xd, hxd⟩ : ∃ x, dx ds k = x := ⟨_, rfl⟩
              rw [hkd] at r1 hne
              rw [hxd] at r2 r3 hne
              simp only [hkd, hxd] at hst hsame
              have hx6 := dti_six hne
              have hd24 := dtx_len kd xd
              have hrd : rdS (dtx kd xd) = some (kd, xd) := rdS_complete rfl hne
              have HDT := Lib.hid (fun W (q : Ext wq W) => iDeedText_j kd (RX k) (rX k) xd W (r3.ext q) (HE.out _ (HX1.out.trans (hX1q.trans q))).1 (by omega))
              obtain ⟨hw8q, A6, c6, B6, d6, hb6, hM6, hS6⟩ := HWq.out
              have hln := fun W (q : Ext wq W) => iDeskLine_any A6 B6 c6 d6 D' L' (dtx kd xd) [] W (hM6.ext q) (hS6.ext q) (by omega) (HE.out _ (HX1.out.trans (hX1q.trans q))) (fun _ hn => by rw [hrd] at hn; cases hn)
              have e1 : lineD D' L' (dtx kd xd) = doD D' L' kd xd := by unfold lineD; rw [if_pos HI.out.1, hrd]; rfl
              have e2 : lineL D' L' (dtx kd xd) = doL D' L' kd xd := by unfold lineL; rw [if_pos HI.out.1, hrd]; rfl
              have e3 : lineT D' L' [] (dtx kd xd) = if doB D' L' kd xd = true then [111, 107] else [110, 111] := by unfold lineT; rw [if_pos HI.out.1, hrd]; rfl
              rw [e1, e2, e3] at hln
              have HDD := Lib.hid (do_desk (kind := kd) (xs := xd) HI.out.1)
              have HST := Lib.hid hst
              have HSM := Lib.hid hsame
              obtain ⟨bo, hbo⟩ : ∃ x, doB D' L' kd xd = x := ⟨_, rfl⟩
              obtain ⟨D2, hD2'⟩ : ∃ x, doD D' L' kd xd = x := ⟨_, rfl⟩
              obtain ⟨L2, hL2'⟩ : ∃ x, doL D' L' kd xd = x := ⟨_, rfl⟩
              obtain ⟨TX, hTX⟩ : ∃ x, dtx kd xd = x := ⟨_, rfl⟩
              rw [hbo, hD2', hL2', hTX] at hln
              rw [hbo, hD2', hL2'] at HSM
              simp only [hbo, hD2', hL2'] at hst
              have HST2 := Lib.hid hst
              rw [hD2', hL2'] at HDD
              rw [hTX] at HDT
              have HLN := Lib.hid hln
              obtain ⟨TB, hTB⟩ : ∃ x, (if bo = true then ([111, 107] : List UInt8) else [110, 111]) = x := ⟨_, rfl⟩
              rw [hTB] at HLN
              have HTB := Lib.hid hTB
              have hb6' := fun W (q : Ext wq W) => two_cells ((q.block (heap_lt hb6)).trans hb6)
              have HB6 := Lib.hid hb6'
              have HBK := Lib.hid (fun W (q : Ext wq W) => (q.block (heap_lt hb6)).trans hb6)
              obtain ⟨u0, u1⟩ := two_cells hb6
              have u0' : ∀ o, (wq.alloc o).cell? ⟨w8.heap.size, 0, none⟩ = some _ := fun o => (hb6' (wq.alloc o) (Ext.alloc _ _)).1
              have u1' : ∀ o, (wq.alloc o).cell? ⟨w8.heap.size, 1, none⟩ = some _ := fun o => (hb6' (wq.alloc o) (Ext.alloc _ _)).2
              have r1' : ∀ o, (wq.alloc o).cell? _ = some _ := fun o => (Ext.alloc wq o).cell r1
              have r2' : ∀ o, (wq.alloc o).cell? _ = some _ := fun o => (Ext.alloc wq o).cell r2
              have HW1q := Lib.hid hX1q
              clear q0 q1 HW hxq HX8r hX8q hX2q hX1q hAX hkX hxX hiX r3 hne hst hsame hkd hxd hx6 hd24 hrd hln e1 e2 e3 hbo hD2' hL2' hTX hTB hM6 hS6 hb6 hb6' hw8q HST
              go_upto_region 19 with fail
              go_cut [17, 18] (fun s17 s18 wx => ∃ m17 A' c' B' d', s17 = .pointer (some ⟨m17, 0, none⟩) ∧ s18 = tx TB ∧ Hid (Ext wq wx ∧ wx.heap[m17]? = some (.cells #[.slice A' (List.length D2) c', .slice B' (List.length L2) d'] 26 (0, 0)) ∧ OwnDk wq.heap.size wx (.agg #[.slice A' D2.length c', .slice B' L2.length d']) D2 L2))
              case first =>
                unfold tx at HDT
                go_wp2_with fail
                go_region_law (go_simp; first | (go_at_call 16; (fail_if_success (have q := hX10)); refine (HLN.out _ (by repeat (first | exact hr9 | apply Ext.alloc' | apply Ext.drew'))).mono ?_; rintro e w10 ⟨v10, rfl, hO10, hX10⟩; obtain ⟨A10, c10, B10, d10, rfl, -, -, -, -⟩ := hO10.split; obtain ⟨z1, z2, z3, z4, -⟩ := keepB_set2 (b := 0) (heap_alloc_new w10 (.cells #[.slice none 0 0, .slice none 0 0] 26)) (.slice A10 D2.length c10) (.slice B10 L2.length d10); (try have x8 : w10.heap[wq.heap.size]? = some (.cells #[.slice none 0 0, .slice none 0 0] 26 (0, 0)) := (hX10.block (heap_lt x7)).trans x7); (try (have y8 := keepB_set2 (b := 0) x8 (.slice A10 D2.length c10) (.slice B10 L2.length d10); obtain ⟨t1, t2, t3, t4, -⟩ := y8)); (try have x9 : w10.heap[w9.heap.size]? = some (.cells #[.slice none 0 0, .slice none 0 0] 26 (0, 0)) := (hX10.block (by simp)).trans (alloc_at (by simp))); (try (have y9 := keepB_set2 (b := 0) x9 (.slice A10 D2.length c10) (.slice B10 L2.length d10); obtain ⟨s1, s2, s3, s4, -⟩ := y9)); unfold tx) | (go_at_call 33; (fail_if_success (have q := hX9)); refine (HDT.out _ (by repeat (first | exact Ext.refl _ | apply Ext.alloc' | apply Ext.drew'))).mono ?_; rintro e w9 ⟨rfl, hX9⟩; have hr9 : Ext wq w9 := Ext.trans (by repeat (first | exact Ext.refl _ | apply Ext.alloc' | apply Ext.drew')) hX9; (try have x7 : w9.heap[wq.heap.size]? = some (.cells #[.slice none 0 0, .slice none 0 0] 26 (0, 0)) := (hX9.block (by simp)).trans (alloc_at (by simp))); obtain ⟨v0, v1⟩ := HB6.out w9 hr9; have v0' : ∀ o, (w9.alloc o).cell? ⟨w8.heap.size, 0, none⟩ = some _ := (fun o => (HB6.out (w9.alloc o) (hr9.alloc' o)).1); have v1' : ∀ o, (w9.alloc o).cell? ⟨w8.heap.size, 1, none⟩ = some _ := (fun o => (HB6.out (w9.alloc o) (hr9.alloc' o)).2)))
                all_goals
                  go_wp2_with fail
                  go_meet
                  case rel =>
                    first
                      | exact ⟨_, _, _, _, _, rfl, rfl, Lib.hid (own_stored2 (wc := w9) hr9 hX10 hO10 ⟨w10, Ext.refl _, x8, rfl⟩ (Nat.le_refl _))⟩
                      | exact ⟨_, _, _, _, _, rfl, rfl, Lib.hid (own_stored2 (wc := w9.alloc _) (hr9.alloc' _) hX10 hO10 ⟨w10, Ext.refl _, x9, rfl⟩ hr9.size)⟩
                      | exact ⟨_, _, _, _, _, rfl, rfl, Lib.hid (own_stored2 (wc := w9) hr9 hX10 hO10 ⟨_, Ext.alloc _ _, heap_alloc_new _ _, alloc_set2 _ _ _ _ _ _⟩ (hr9.trans hX10).size)⟩
              case rest =>
                obtain ⟨m17, A', c', B', d', rfl, rfl, HT⟩ := hcut
                clear u0 u1 u0' u1' r1 r1' r2 r2'
                obtain ⟨y0, y1⟩ := two_cells HT.out.2.1
                obtain ⟨t1, t2, t3, t4, t5, t6, -⟩ := keepB_set2 (b := 0) (HBK.out wc HT.out.1) (.slice A' D2.length c') (.slice B' L2.length d')
                have HTK := Lib.hid (HWq.out.take HT.out.1 HT.out.2.2)
                have hfin : ∃ m, runR ds g1 (k + 1) D2 L2 m = runR ds ds.length 0 D L 0 := by
                  obtain ⟨m, e⟩ := HI.out.2
                  cases bo with
                  | true => exact ⟨m + 1, by rw [← e, HST2.out g1 m, if_pos rfl]⟩
                  | false =>
                    obtain ⟨f1, f2⟩ := HSM.out rfl
                    exact ⟨m, by rw [← e, HST2.out g1 m, if_neg (by simp), f1, f2]⟩
                have HFIN := Lib.hid hfin
                clear hfin HI HST2 HSM HLN HDT
                unfold tx
                cases bo with
                | true =>
                  obtain rfl : ([111, 107] : List UInt8) = TB := HTB.out
                  clear HTB
                  go_wp2_with fail
                  go_roundg g1
                  case measure => omega
                  case rel => exact ⟨k + 1, D2, L2, by omega, by go_num, Lib.hid ⟨HDD.out, HFIN.out⟩, HTK⟩
                | false =>
                  obtain rfl : ([110, 111] : List UInt8) = TB := HTB.out
                  clear HTB
                  go_wp2_with fail
                  go_roundg g1
                  case measure => omega
                  case rel => exact ⟨k + 1, D2, L2, by omega, by go_num, Lib.hid ⟨HDD.out, HFIN.out⟩, HTK⟩
            · have hin' : ¬ (k : Int) < (ds.length : Nat) := by omega
              obtain rfl : gk = 0 := by omega
              have HF := Lib.hid (show D' = (runR ds ds.length 0 D L 0).1 ∧ L' = (runR ds ds.length 0 D L 0).2.1 from by
                obtain ⟨-, m, e⟩ := HI.out
                rw [← e]
                exact ⟨rfl, rfl⟩)
              clear HI
              go_wp2_with fail
              go_meet
              case rel => exact ⟨D', L', HW, Lib.hid (fun _ => HF.out)⟩
      case rest =>
        obtain ⟨D', L', HN, HR⟩ := hcut
        obtain ⟨hw8c, A6, c6, B6, d6, hb6, hM6, hS6⟩ := HN.out
        have hX2c : Ext w2 wc := HX7.out.trans (HX8.out.trans hw8c)
        have hX1c : Ext w1 wc := HX17.out.trans (HX8.out.trans hw8c)
        have hrun := fun W (q : Ext wc W) => iDeskRun_any A7 B7 c7 d7 D L A2 c2 ds W (HM.out _ (HX8.out.trans (hw8c.trans q))) (HS.out _ (HX8.out.trans (hw8c.trans q))) (HD2.out _ (hX2c.trans q))
        have hgood : deskB D L = true → ds.length ≤ 40 → D' = (runV D L ds).1 ∧ L' = (runV D L ds).2.1 := fun q1 q2 => by
          unfold runV
          rw [if_pos ⟨q1, q2⟩]
          exact HR.out q1
        obtain ⟨⟨X, Y, P⟩, hr⟩ : ∃ r, runV D L ds = r := ⟨_, rfl⟩
        rw [hr] at hrun hgood
        simp only at hrun hgood
        have HRUN := Lib.hid hrun
        have HGD := Lib.hid hgood
        have HXC := Lib.hid (And.intro hw8c (And.intro hX2c hX1c))
        have hbn := fun W (q : Ext wc W) => two_cells ((q.block (heap_lt hb6)).trans hb6)
        have HM6 := Lib.hid (fun W (q : Ext wc W) => And.intro (hM6.ext q) (hS6.ext q))
        obtain ⟨p0, p1⟩ := HB8.out wc hw8c
        have hbn' := Lib.hid hbn
        clear hr hrun hgood hM6 hS6 hb6 hw8c hX2c hX1c hbn HN HR
        go_wp2_with fail
        refine (HRUN.out _ (Ext.refl _)).mono ?_
        rintro e wd ⟨vd, rfl, hOd, hxd⟩
        obtain ⟨A5, c5, B5, d5, rfl, -, -, -, -⟩ := hOd.split
        obtain ⟨m1, m2⟩ := own_mats hOd
        obtain ⟨we, hwe⟩ : ∃ W, wd.alloc (.cells #[.slice A5 X.length c5, .slice B5 Y.length d5] 26) = W := ⟨_, rfl⟩
        have hxe : Ext wd we := by rw [← hwe]; exact Ext.alloc _ _
        have hbe := heap_alloc_new wd (.cells #[.slice A5 X.length c5, .slice B5 Y.length d5] 26)
        rw [hwe] at hbe
        have hce : Ext wc we := hxd.trans hxe
        have HBE := Lib.hid (fun W (q : Ext we W) => two_cells ((q.block (heap_lt hbe)).trans hbe))
        have HBN := Lib.hid (fun W (q : Ext we W) => hbn'.out W (hce.trans q))
        have HW8E := Lib.hid (HXC.out.1.trans hce)
        have HWE := Lib.hid (HX1.out.trans (HXC.out.2.2.trans hce))
        have HJ0 := fun W (q : Ext we W) => iJournalText_any A2 c2 ds W (HD2.out _ (HXC.out.2.1.trans (hce.trans q))) (HE.out _ (HWE.out.trans q)).1 (by omega) (fun i hi => by
          have h6 : (dx ds i).length ≤ 6 := dti_six (k := dk ds i) (allT_iff.1 HAT.out i hi)
          omega)
        rw [HJT.out] at HJ0
        have hsl := slice_to (L := R) (a := N) hJle
        have hN' : (N : Int) ≤ (R.length : Nat) := by omega
        obtain ⟨U, hU⟩ : ∃ U, R.take N = U := ⟨_, rfl⟩
        rw [hU] at HJ0 hsl
        have hUU : (U == U) = true := beq_self_eq_true U
        have HJ := Lib.hid HJ0
        have HOK := Lib.hid (fun W (q : Ext we W) => HSO.out W (HX8.out.trans (HW8E.out.trans q)))
        have HMX := Lib.hid (fun W (q : Ext we W) => And.intro (m1.ext (hxe.trans q)) (m2.ext (hxe.trans q)))
        have HM6E := Lib.hid (fun W (q : Ext we W) => HM6.out W (hce.trans q))
        have HWEC := Lib.hid hwe
        unfold tx at hsl
        clear HJ0 hU hOd m1 m2 hbe hxe hxd hce hbn' HRUN p0 p1
        have l0 : ∀ x : EW we, x.to.cell? ⟨w7.heap.size, 0, none⟩ = _ := fun x => (HB8.out x.to (HW8E.out.trans x.ok)).1
        have l1 : ∀ x : EW we, x.to.cell? ⟨w7.heap.size, 1, none⟩ = _ := fun x => (HB8.out x.to (HW8E.out.trans x.ok)).2
        have l2 : ∀ x : EW we, x.to.cell? ⟨w8.heap.size, 0, none⟩ = _ := fun x => (HBN.out x.to x.ok).1
        have l3 : ∀ x : EW we, x.to.cell? ⟨w8.heap.size, 1, none⟩ = _ := fun x => (HBN.out x.to x.ok).2
        have l4 : ∀ x : EW we, x.to.cell? ⟨wd.heap.size, 0, none⟩ = _ := fun x => (HBE.out x.to x.ok).1
        have l5 : ∀ x : EW we, x.to.cell? ⟨wd.heap.size, 1, none⟩ = _ := fun x => (HBE.out x.to x.ok).2
        unfold tx at HJ
        cases hd : deskB D L with
        | false =>
          rw [hd] at HOK
          clear hd
          go_wp2_with fail
          refine wp_region_quiet_ext (by kernel_rfl) (by kernel_rfl) ?_
          repeat (go_big_quiet_step (((first | (go_at_call 35; exact Calls.ew_of (HJ.out _ (EW.ok _))) | (go_at_call 13; exact Calls.ew_of (HOK.out _ (EW.ok _))) | (go_at_call 15; exact Calls.ew_of (alive_any _))))))
          refine wpQuiet_nil ?_
          intro _ hw'
          obtain ⟨⟨wq, hq⟩, hw''⟩ := hw'
          subst hw''
          go_wp2
          go_ret
          exact ⟨rfl, HWE.out.trans hq⟩
        | true =>
          have HGD2 := Lib.hid (HGD.out hd)
          rw [hd] at HOK
          clear hd
          by_cases h40 : ds.length ≤ 40
          · have n40 : ¬ (40 : Int) < (ds.length : Nat) := by omega
            have n40b : decide ((40 : Int) < (ds.length : Nat)) = false := decide_eq_false n40
            obtain ⟨rfl, rfl⟩ := HGD2.out h40
            have HSD := Lib.hid (fun W (q : Ext we W) => sameDesk_v A6 B6 c6 d6 D' L' A5 B5 c5 d5 D' L' W (HM6E.out W q).1 (HM6E.out W q).2 (HMX.out W q).1 (HMX.out W q).2 true (by simp))
            clear HGD HGD2 h40
            go_wp2_with fail
            refine wp_region_quiet_ext (by kernel_rfl) (by kernel_rfl) ?_
            repeat (go_big_quiet_step (((first | (go_at_call 35; exact Calls.ew_of (HJ.out _ (EW.ok _))) | (go_at_call 13; exact Calls.ew_of (HOK.out _ (EW.ok _))) | (go_at_call 11; exact Calls.ew_of (HSD.out _ (EW.ok _))) | (go_at_call 15; exact Calls.ew_of (alive_any _))))))
            refine wpQuiet_nil ?_
            intro _ hw'
            obtain ⟨⟨wq, hq⟩, hw''⟩ := hw'
            subst hw''
            go_wp2
            go_ret
            exact ⟨rfl, HWE.out.trans hq⟩
          · have n40 : (40 : Int) < (ds.length : Nat) := by omega
            have n40b : decide ((40 : Int) < (ds.length : Nat)) = true := decide_eq_true n40
            clear HGD HGD2 h40
            go_wp2_with fail
            refine wp_region_quiet_ext (by kernel_rfl) (by kernel_rfl) ?_
            repeat (go_big_quiet_step (((first | (go_at_call 35; exact Calls.ew_of (HJ.out _ (EW.ok _))) | (go_at_call 13; exact Calls.ew_of (HOK.out _ (EW.ok _))) | (go_at_call 15; exact Calls.ew_of (alive_any _))))))
            refine wpQuiet_nil ?_
            intro _ hw'
            obtain ⟨⟨wq, hq⟩, hw''⟩ := hw'
            subst hw''
            go_wp2
            go_ret
            exact ⟨rfl, HWE.out.trans hq⟩
end Go.Proofs.YtcejdgnfmcgopaaGreatDoor
