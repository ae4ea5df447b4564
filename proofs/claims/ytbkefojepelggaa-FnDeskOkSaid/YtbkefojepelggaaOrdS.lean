/- What is proved: spec.OrderOk and spec.Ordered: a space with its points in another order, in new memory; none for others. No condition. -/
import Derived.Test.YtbkefojepelggaaOrdD
namespace Go.Proofs.Ytbkefojepelggaa
open Go.RowKit
def ordC (o : List Int) (k : Nat) : Bool := decide (0 ≤ ix o k ∧ ix o k < o.length) && allR (fun j => decide (ix o j ≠ ix o k)) k 0
theorem ordOk_eq (o : List Int) : ordOk o = (allR (ordC o) o.length 0 && inB o.length 1 6) := by
  rw [Bool.and_comm]
  have : inB o.length 1 6 = decide (1 ≤ o.length ∧ o.length ≤ 6) := by
    unfold inB
    exact decide_eq_decide.2 (by omega)
  rw [this]
  rfl
set_option maxHeartbeats 2000000 in
theorem OrderOk_any (B : Option Addr) (cb : Nat) (o : List Int) (w : World) (hO : Ints w B cb o) :
    Calls Try.prog 99 #[.slice B o.length cb] w fun e w' => e = .returned (.bool (ordOk o)) ∧ ∃ m, w' = w.drewN m := by
  obtain ⟨k1, k2, b, off, hB, hc⟩ := hO
  unfold maxLen at k2
  have HC := Lib.hid hc
  have HD := Lib.hid (ordOk_eq o)
  have HDc := Lib.hid (fun k => show ordC o k = (decide (0 ≤ ix o k ∧ ix o k < o.length) && allR (fun j => decide (ix o j ≠ ix o k)) k 0) from rfl)
  clear hc
  go_enter Try.func99, Try.ntmps99
  go_wp2
  go_loopg [3] (o.length) (fun g s3 wr => ∃ (k m : Nat), k + g = o.length ∧ s3 = .int .i64 k ∧ wr = w.drewN m ∧ Hid (allR (ordC o) g k = allR (ordC o) o.length 0))
  case atStart => exact ⟨0, _, by omega, rfl, by first | rfl | exact drewN_0 _ | exact drewN_add _ _ _, Lib.hid (rfl)⟩
  case round =>
    obtain ⟨k, mk, hk, rfl, rfl, Hk⟩ := hrel
    by_cases hink : k < o.length
    · obtain ⟨gk, rfl⟩ : ∃ g', gk = g' + 1 := ⟨gk - 1, by omega⟩
      have hink' : (k : Int) < (o.length : Nat) := by omega
      obtain rfl := hB (by omega)
      have c1 := HC.out k hink
      have Hst := Lib.hid (show allR (ordC o) (gk + 1) k = (ordC o k && allR (ordC o) gk (k + 1)) from rfl)
      have Hck := Lib.hid (HDc.out k)
      obtain ⟨X, hX⟩ : ∃ X, ix o k = X := ⟨_, rfl⟩
      rw [hX] at c1 Hck
      clear hX
      have HIN := Lib.hid (show inB X 0 (o.length - 1) = decide (0 ≤ X ∧ X < o.length) from decide_eq_decide.2 (by omega))
      cases hz : inB X 0 (o.length - 1) with
      | false =>
        have HF := Lib.hid (show ordC o k = false by rw [Hck.out, ← HIN.out, hz]; rfl)
        go_wp2_with fail
        refine (l1In_any _ _ _ _).mono ?_
        rintro e w' ⟨rfl, hw⟩
        rw [hw, hz]
        clear hw hz HIN
        go_wp2
        go_ret
        exact ⟨ret_bool (by rw [HD.out, ← Hk.out, Hst.out, HF.out]; rfl), _, rfl⟩
      | true =>
        have HF := Lib.hid (show ordC o k = allR (fun j => decide (ix o j ≠ X)) k 0 by rw [Hck.out, ← HIN.out, hz, Bool.true_and])
        go_wp2_with fail
        refine (l1In_any _ _ _ _).mono ?_
        rintro e w' ⟨rfl, hw⟩
        rw [hw, hz]
        clear hw hz HIN
        go_wp2
        go_loopg [4] (k) (fun g s4 wr => ∃ (j m : Nat), j + g = k ∧ s4 = .int .i64 j ∧ wr = w.drewN m ∧ Hid (allR (fun j => decide (ix o j ≠ X)) g j = allR (fun j => decide (ix o j ≠ X)) k 0))
        case atStart => exact ⟨0, _, by omega, rfl, by first | rfl | exact drewN_0 _ | exact drewN_add _ _ _, Lib.hid (rfl)⟩
        case round =>
          obtain ⟨j, mj, hj, rfl, rfl, Hj⟩ := hrel
          by_cases hinj : j < k
          · obtain ⟨gj, rfl⟩ : ∃ g', gk = g' + 1 := ⟨gk - 1, by omega⟩
            have hinj' : (j : Int) < (k : Nat) := by omega
            have c2 := HC.out j (by omega)
            have Hst2 := Lib.hid (show allR (fun j => decide (ix o j ≠ X)) (gj + 1) j = (decide (ix o j ≠ X) && allR (fun j => decide (ix o j ≠ X)) gj (j + 1)) from rfl)
            obtain ⟨Y, hY⟩ : ∃ Y, ix o j = Y := ⟨_, rfl⟩
            rw [hY] at c2 Hst2
            clear hY
            by_cases q : Y = X
            · have HN := Lib.hid (show allR (fun j => decide (ix o j ≠ X)) k 0 = false by rw [← Hj.out, Hst2.out, decide_eq_false (fun h => h q)]; rfl)
              have q' : (Y == X) = true := beq_iff_eq.2 q
              have HX := Lib.hid q
              clear q
              go_wp2
              go_quiet (fail)
              go_wp2
              go_ret
              exact ⟨ret_bool (by rw [HD.out, ← Hk.out, Hst.out, HF.out, HN.out]; rfl), _, by first | rfl | exact drewN_add _ _ _⟩
            · have HN := Lib.hid (show allR (fun j => decide (ix o j ≠ X)) (gj + 1) j = allR (fun j => decide (ix o j ≠ X)) gj (j + 1) by rw [Hst2.out, decide_eq_true q, Bool.true_and])
              have q' : (Y == X) = false := beq_eq_false_iff_ne.2 q
              clear q
              go_wp2
              go_quiet (fail)
              go_wp2
              go_roundg gj
              case measure => omega
              case rel => exact ⟨j + 1, _, by omega, by go_num, by first | rfl | exact drewN_0 _ | exact drewN_add _ _ _, Lib.hid (by rw [← HN.out]; exact Hj.out)⟩
          · have hinj' : ¬ (j : Int) < (k : Nat) := by omega
            obtain rfl : gk = 0 := by omega
            have HT := Lib.hid (show allR (fun j => decide (ix o j ≠ X)) k 0 = true by rw [← Hj.out]; rfl)
            go_wp2
            go_roundg gk
            case measure => omega
            case rel => exact ⟨k + 1, _, by omega, by go_num, by first | rfl | exact drewN_0 _ | exact drewN_add _ _ _, Lib.hid (by rw [← Hk.out, Hst.out, HF.out, HT.out, Bool.true_and])⟩
    · have hink' : ¬ (k : Int) < (o.length : Nat) := by omega
      obtain rfl : gk = 0 := by omega
      have HT := Lib.hid (show allR (ordC o) o.length 0 = true by rw [← Hk.out]; rfl)
      have HF := Lib.hid (show ordOk o = inB o.length 1 6 by rw [HD.out, HT.out, Bool.true_and])
      go_wp2_with fail
      refine (l1In_any _ _ _ _).mono ?_
      rintro e w' ⟨rfl, hw⟩
      rw [hw]
      clear hw
      go_wp2
      go_ret
      exact ⟨ret_bool HF.out.symm, _, rfl⟩
def ordV (D : List (List Int)) (o : List Int) : List (List Int) := if spB D = true ∧ ordOk o = true ∧ o.length = D.length then ordD D o else []
theorem one_run {P : Program} {w0 W : World} {T E ty : TypeId} (_hE : E = 3)
    (ht : P.underlying T = some (.slice E)) (hinfo : (P.info? E).map (fun i => (i.zero, i.size, i.bytes)) = some (some (.int .i64 0), 1, 8)) {v : Value} {ys : List Int} (X : Int) (h : Acc w0 W E v (ys.map (Value.int .i64))) (hl : ys.length ≤ 1000000) :
    ∃ v' w', (Builtin.append_ #[T, T] ty #[v, .slice (some ⟨W.heap.size, 0, none⟩) 1 1]).run P (W.alloc (.cells #[.int .i64 X] E)).drew = .ok v' w' ∧ Acc w0 w' E v' ((ys ++ [X]).map (Value.int .i64)) := by
  obtain ⟨v', w', h1, h2, -, -⟩ := app_run (W := (W.alloc (.cells #[.int .i64 X] E)).drew) (ty := ty) ht hinfo rfl (by decide) v (ys.map (Value.int .i64)) ⟨W.heap.size, 0, none⟩ 1 1 [.int .i64 X] rfl (one_news (cell_new0 W _ E) rfl) (map_one [X]) (h.on ((Ext.alloc W _).drewN' 1)) (by simp; omega)
  exact ⟨v', w', h1, by rw [List.map_append]; exact h2⟩
set_option maxRecDepth 100000 in
set_option maxHeartbeats 4000000 in
theorem sOrdered_own (A : Option Addr) (ca : Nat) (D : List (List Int)) (B : Option Addr) (cb : Nat) (o : List Int) (w : World) (hD : Mat w A ca D) (hO : Ints w B cb o) :
    Calls Try.prog 89 #[.slice A D.length ca, .slice B o.length cb] w (FreshR w (ordV D o)) := by
  have HMD := Lib.hid hD
  have HMO := Lib.hid hO
  have HCD := Lib.hid (fun W (q : Mat W A ca D) => SpaceOk_any A ca D W q)
  have HCO := Lib.hid (fun W (q : Ints W B cb o) => OrderOk_any B cb o W q)
  have hcm := hD.2.1
  have hlc := hD.1
  unfold maxLen at hcm
  have k2 := hO.2.1
  have k1 := hO.1
  unfold maxLen at k2
  have HNIL := Lib.hid (fun W (q : Ext w W) => (AccR.empty q).fresh)
  cases hs : spB D with
  | false =>
    have HF := Lib.hid (show ordV D o = [] from if_neg fun q => absurd (hs.symm.trans q.1) (by decide))
    rw [hs] at HCD
    clear hs hD hO
    go_enter Try.func89, Try.ntmps89
    go_wp2_with fail
    refine (HCD.out _ (HMD.out.ext (by repeat (first | exact Ext.refl _ | assumption | apply Ext.drewN' | apply Ext.alloc' | refine Ext.trans ?_ (by assumption))))).mono ?_
    rintro e w1 ⟨rfl, m1, rfl⟩
    go_wp2
    go_ret
    rw [HF.out]
    exact ⟨_, rfl, (AccR.empty (Ext.refl _)).on (by repeat (first | exact Ext.refl _ | assumption | apply Ext.drewN' | apply Ext.alloc' | refine Ext.trans ?_ (by assumption)))⟩
  | true =>
  cases ht : ordOk o with
  | false =>
    have HF := Lib.hid (show ordV D o = [] from if_neg fun q => absurd (ht.symm.trans q.2.1) (by decide))
    rw [hs] at HCD
    rw [ht] at HCO
    clear hs ht hD hO
    go_enter Try.func89, Try.ntmps89
    go_wp2_with fail
    refine (HCD.out _ (HMD.out.ext (by repeat (first | exact Ext.refl _ | assumption | apply Ext.drewN' | apply Ext.alloc' | refine Ext.trans ?_ (by assumption))))).mono ?_
    rintro e w1 ⟨rfl, m1, rfl⟩
    go_wp2_with fail
    refine (HCO.out _ (HMO.out.ext (by repeat (first | exact Ext.refl _ | assumption | apply Ext.drewN' | apply Ext.alloc' | refine Ext.trans ?_ (by assumption))))).mono ?_
    rintro e w2 ⟨rfl, m2, rfl⟩
    go_wp2
    go_ret
    rw [HF.out]
    exact ⟨_, rfl, (AccR.empty (Ext.refl _)).on (by repeat (first | exact Ext.refl _ | assumption | apply Ext.drewN' | apply Ext.alloc' | refine Ext.trans ?_ (by assumption)))⟩
  | true =>
  by_cases hn : o.length = D.length
  rotate_left
  · have HF := Lib.hid (show ordV D o = [] from if_neg fun q => hn q.2.2)
    have hn' : ((o.length : Int) != (D.length : Nat)) = true := bne_iff_ne.2 (by omega)
    rw [hs] at HCD
    rw [ht] at HCO
    clear hs ht hD hO
    go_enter Try.func89, Try.ntmps89
    go_wp2_with fail
    refine (HCD.out _ (HMD.out.ext (by repeat (first | exact Ext.refl _ | assumption | apply Ext.drewN' | apply Ext.alloc' | refine Ext.trans ?_ (by assumption))))).mono ?_
    rintro e w1 ⟨rfl, m1, rfl⟩
    go_wp2_with fail
    refine (HCO.out _ (HMO.out.ext (by repeat (first | exact Ext.refl _ | assumption | apply Ext.drewN' | apply Ext.alloc' | refine Ext.trans ?_ (by assumption))))).mono ?_
    rintro e w2 ⟨rfl, m2, rfl⟩
    go_wp2
    go_ret
    rw [HF.out]
    exact ⟨_, rfl, (AccR.empty (Ext.refl _)).on (by repeat (first | exact Ext.refl _ | assumption | apply Ext.drewN' | apply Ext.alloc' | refine Ext.trans ?_ (by assumption)))⟩
  · have HF := Lib.hid (show ordV D o = ordD D o from if_pos ⟨hs, ht, hn⟩)
    obtain ⟨⟨hn1, hn6⟩, hsq, -⟩ := farB_parts (spB_far hs)
    obtain ⟨bk, off, rc, rb, ro, hA, hrow, -, hcell, -⟩ := hD.square hsq
    obtain rfl := hA (by omega)
    obtain ⟨-, -, b2, o2, hB, hc2⟩ := hO
    obtain rfl := hB (by omega)
    obtain ⟨-, -, ho, -⟩ := ordOk_facts ht
    have HROW := Lib.hid hrow
    have HCE := Lib.hid hcell
    have HO := Lib.hid hc2
    have HLO := Lib.hid ho
    have HAT := Lib.hid (fun i k hi hk => ordD_cell (D := D) (o := o) (i := i) (k := k) hi hk)
    have HTR := Lib.hid (fun i (hi : i < o.length) => take_row (D := ordD D o) (i := i) (by rw [ordD_len]; exact hi))
    have HTX := Lib.hid (fun i j (hi : i < o.length) (hj : j < o.length) => take_ix (xs := row (ordD D o) i) (j := j) (by rw [ordD_row hi]; simpa using hj))
    have HTF := Lib.hid (fun i (hi : i < o.length) => show (row (ordD D o) i).take o.length = row (ordD D o) i from List.take_of_length_le (by rw [ordD_row hi]; simp))
    have HTF2 := Lib.hid (show (ordD D o).take o.length = ordD D o from List.take_of_length_le (by rw [ordD_len]; exact Nat.le_refl _))
    have HBD := Lib.hid (fun i (h : i ≤ o.length) => show ((ordD D o).take i).length ≤ 6 by rw [List.length_take]; omega)
    rw [hs] at HCD
    rw [ht] at HCO
    obtain ⟨n, hnn⟩ : ∃ n, D.length = n := ⟨_, rfl⟩
    have hnn2 : o.length = n := by omega
    rw [hnn] at HROW HCE hn1 hn6 HCD hlc
    rw [hnn2] at HO HLO HAT HTR HTX HTF HTF2 HBD HCO k1
    rw [hnn, hnn2]
    clear hrow hcell hc2 ho hsq hA hB hs ht hn hD hnn hnn2
    obtain ⟨E, hE⟩ : ∃ E, ordD D o = E := ⟨_, rfl⟩
    rw [hE] at HAT HTR HTX HTF HTF2 HF HBD
    clear hE
    go_enter Try.func89, Try.ntmps89
    go_wp2_with fail
    refine (HCD.out _ (HMD.out.ext (by repeat (first | exact Ext.refl _ | assumption | apply Ext.drewN' | apply Ext.alloc' | refine Ext.trans ?_ (by assumption))))).mono ?_
    rintro e w1 ⟨rfl, m1, rfl⟩
    go_wp2_with fail
    refine (HCO.out _ (HMO.out.ext (by repeat (first | exact Ext.refl _ | assumption | apply Ext.drewN' | apply Ext.alloc' | refine Ext.trans ?_ (by assumption))))).mono ?_
    rintro e w2 ⟨rfl, m2, rfl⟩
    go_wp2
    go_loopg [6, 5] n (fun g s6 s5 wr => ∃ (i : Nat), i + g = n ∧ s6 = .int .i64 i ∧ Hid (AccR w wr s5 (E.take i)))
    case atStart => exact ⟨0, by omega, rfl, Lib.hid (by rw [List.take_zero]; exact (AccR.empty (Ext.refl _)).on (by first | exact Ext.refl _ | exact Ext.drewN _ _))⟩
    case round =>
      obtain ⟨i, hi, rfl, HR⟩ := hrel
      by_cases hini : i < n
      · obtain ⟨gi1, rfl⟩ : ∃ g', gk = g' + 1 := ⟨gk - 1, by omega⟩
        have hini' : (i : Int) < (n : Nat) := by omega
        have hxi := HR.out.x
        obtain ⟨a0, a1⟩ := HLO.out i hini
        have HATi := Lib.hid (fun k hk => HAT.out i k hini hk)
        have HTXi := Lib.hid (fun k hk => HTX.out i k hini hk)
        have HTFi := Lib.hid (HTF.out i hini)
        have HTRi := Lib.hid (HTR.out i hini)
        have HBDi := Lib.hid (HBD.out i (by omega))
        have HO1 := Lib.hid (HO.out i hini)
        obtain ⟨a, ha⟩ : ∃ a : Nat, ix o i = (a : Int) := ⟨(ix o i).toNat, by omega⟩
        rw [ha] at HO1 a0 a1 HATi
        have ha' : a < n := by omega
        have HTN : ((a : Int)).toNat = a := by omega
        rw [HTN] at HATi
        have HR1 := Lib.hid (HROW.out a ha')
        obtain ⟨RW, hRW⟩ : ∃ r, row E i = r := ⟨_, rfl⟩
        rw [hRW] at HATi HTXi HTFi HTRi
        obtain ⟨wq, hwq⟩ : ∃ wq : World, wq = wr := ⟨_, rfl⟩
        subst hwq
        have HXI := Lib.hid hxi
        clear ha hRW HTN a0
        go_wp2
        go_loopg [8, 7] n (fun g s8 s7 wx => ∃ (k : Nat), k + g = n ∧ s8 = .int .i64 k ∧ Hid (Acc wq wx 3 s7 ((RW.take k).map (Value.int .i64))))
        case atStart => exact ⟨0, by omega, rfl, Lib.hid (by rw [List.take_zero]; exact Acc.empty _ (Ext.refl _))⟩
        case round =>
          obtain ⟨k, hk, rfl, HK⟩ := hrel
          have hxk := HK.out.x
          by_cases hink : k < n
          · obtain ⟨gk1, rfl⟩ : ∃ g', gk = g' + 1 := ⟨gk - 1, by omega⟩
            have hink' : (k : Int) < (n : Nat) := by omega
            obtain ⟨a0, a2⟩ := HLO.out k hink
            have HATk := Lib.hid (HATi.out k hink)
            have HTXk := Lib.hid (HTXi.out k hink)
            have HO2 := Lib.hid (HO.out k hink)
            obtain ⟨d, hd⟩ : ∃ a : Nat, ix o k = (a : Int) := ⟨(ix o k).toNat, by omega⟩
            rw [hd] at a0 a2 HATk HO2
            have hd' : d < n := by omega
            have HTN : ((d : Int)).toNat = d := by omega
            rw [HTN] at HATk
            have HC4 := Lib.hid (HCE.out a ha' d hd')
            rw [← HATk.out] at HC4
            obtain ⟨X, hX⟩ : ∃ x, ix RW k = x := ⟨_, rfl⟩
            rw [hX] at HC4 HTXk
            have hb6 : (RW.take k).length ≤ 6 := by rw [List.length_take]; omega
            obtain ⟨ys, hys⟩ : ∃ ys, RW.take k = ys := ⟨_, rfl⟩
            rw [hys] at HK HTXk hb6
            have HK2 := Lib.hid (fun W (q : Ext wq W) => (show W.cell? ⟨b2, o2 + i, none⟩ = some (.int .i64 a) ∧ W.cell? ⟨bk, off + a, none⟩ = some (.slice (some ⟨rb a, ro a, none⟩) n (rc a)) ∧ W.cell? ⟨b2, o2 + k, none⟩ = some (.int .i64 d) ∧ W.cell? ⟨rb a, ro a + d, none⟩ = some (.int .i64 X) from
              ⟨(HXI.out.trans q).cell HO1.out, (HXI.out.trans q).cell HR1.out, (HXI.out.trans q).cell HO2.out, (HXI.out.trans q).cell HC4.out⟩))
            have HRUN := Lib.hid (fun ty (Q : Program) (q1 : Q.underlying 31 = _) q2 => one_run (P := Q) (ty := ty) (E := 3) rfl q1 q2 X HK.out (by omega))
            have HB6 := Lib.hid hb6
            clear hys hX hd HTN a0 HATk HC4 hb6
            go_wp2_with fail
            go_region_held3 (fun W => W.cell? ⟨b2, o2 + i, none⟩ = some (.int .i64 a) ∧ W.cell? ⟨bk, off + a, none⟩ = some (.slice (some ⟨rb a, ro a, none⟩) n (rc a)) ∧ W.cell? ⟨b2, o2 + k, none⟩ = some (.int .i64 d) ∧ W.cell? ⟨rb a, ro a + d, none⟩ = some (.int .i64 X))
              (exact HK2.out _ (by repeat (first | assumption | with_reducible exact Ext.refl _ | with_reducible apply Ext.drewN' | with_reducible apply Ext.drew' | with_reducible apply Ext.drew2' | with_reducible apply Ext.alloc')))
              ((refine step_ex rfl _ _ rfl _ (.slice (some ⟨_, 0, none⟩) 1 1) rfl rfl (HRUN.out _ _ Try.underlying31 infoI) ?_; rintro v6 w6 hP6; have hx6 := hP6.1))
            all_goals
              go_wp2
              go_roundg gk1
              case measure => omega
              case rel => exact ⟨k + 1, by omega, by go_num, Lib.hid (by rw [HTXk.out]; exact hP6)⟩
          · have hink' : ¬ (k : Int) < (n : Nat) := by omega
            obtain rfl : gk = 0 := by omega
            obtain rfl : k = n := by omega
            rw [HTFi.out] at HK
            obtain ⟨Ar, cr, hv2, -⟩ := (Leaf.of_own HK.out.2).1.ints
            obtain ⟨K, hK⟩ : ∃ K, RW.length = K := ⟨_, rfl⟩
            rw [hK] at hv2
            subst hv2
            clear hK
            go_wp2_with (at_builtin; refine wpList_ex rfl _ _ rfl _ (.slice (some ⟨_, 0, none⟩) 1 1) rfl rfl (accR_run (u := .slice Ar K cr) rfl Try.underlying23 infoR ⟨_, 0, none⟩ 1 rfl HR.out HK.out (Ext.alloc _ _) (cell_new0 _ _ _) (by have := HBDi.out; omega)) ?_; rintro v3 W3 hR3)
            go_roundg gi1
            case measure => omega
            case rel => exact ⟨i + 1, by omega, by go_num, Lib.hid (by rw [HTRi.out]; exact hR3)⟩
      · have hini' : ¬ (i : Int) < (n : Nat) := by omega
        obtain rfl : gk = 0 := by omega
        obtain rfl : i = n := by omega
        rw [HTF2.out] at HR
        have HFR := Lib.hid HR.out
        clear HR
        go_wp2
        go_ret
        rw [HF.out]
        exact ⟨_, rfl, HFR.out⟩
theorem sOrdered_any (A : Option Addr) (ca : Nat) (D : List (List Int)) (B : Option Addr) (cb : Nat) (o : List Int) (w : World) (hD : Mat w A ca D) (hO : Ints w B cb o) :
    Calls Try.prog 89 #[.slice A D.length ca, .slice B o.length cb] w (FreshM w (ordV D o)) := (sOrdered_own A ca D B cb o w hD hO).mono fun _ _ h => h.fresh
end Go.Proofs.Ytbkefojepelggaa
