/- What is proved: impl.WithPoint and spec.WithPoint return a space with a new point, in new memory; none where the point does not fit. No condition. -/
import Derived.Test.YtbkefojepelggaaPf
import Derived.Test.YtbkefojepelggaaCopy
namespace Go.Proofs.Ytbkefojepelggaa
open Go.RowKit
def wpV (D : List (List Int)) (xs : List Int) : List (List Int) := ((List.range D.length).map fun i => row D i ++ [ix xs i]) ++ [xs ++ [0]]
def wpB (D : List (List Int)) (xs : List Int) : List (List Int) := if fitsB D xs = true then wpV D xs else []
def TupR (w : World) (E : List (List Int)) (b : Bool) (e : Ending) (w' : World) : Prop := ∃ v, e = .returned (.tuple #[v, .bool b]) ∧ AccR w w' v E
theorem wpV_len (D : List (List Int)) (xs : List Int) : (wpV D xs).length = D.length + 1 := by simp [wpV]
theorem wpV_row {D : List (List Int)} {xs : List Int} {i : Nat} (hi : i < D.length) : row (wpV D xs) i = row D i ++ [ix xs i] := by
  rw [row_of (by rw [wpV_len]; omega)]
  unfold wpV
  rw [List.getElem_append_left (by simpa using hi)]
  simp
theorem wpV_last (D : List (List Int)) (xs : List Int) : row (wpV D xs) D.length = xs ++ [0] := by
  rw [row_of (by rw [wpV_len]; omega)]
  unfold wpV
  rw [List.getElem_append_right (by simp)]
  simp
theorem appIn_run {P : Program} {w0 W : World} {T E ty : TypeId} (hE : E = 3)
    (ht : P.underlying T = some (.slice E)) (hinfo : (P.info? E).map (fun i => (i.zero, i.size, i.bytes)) = some (some (.int .i64 0), 1, 8))
    {v : Value} {ys xs : List Int} {A : Option Addr} {c n : Nat} (hn : xs.length = n) (hX : Acc w0 W E v (ys.map (Value.int .i64))) (hI : Ints W A c xs) (hlen : ys.length + xs.length ≤ 10000000) :
    ∃ v' w', (Builtin.append_ #[T, T] ty #[v, .slice A n c]).run P W = .ok v' w' ∧ (Acc w0 w' E v' ((ys ++ xs).map (Value.int .i64)) ∧ Beside v W w' ∧ Stays v v' W.heap.size) := by
  subst hn
  exact appI_run hE ht hinfo hX hI hlen
theorem fits_parts {D : List (List Int)} {xs : List Int} (h : fitsB D xs = true) : spB D = true ∧ D.length < 6 ∧ xs.length = D.length ∧ pfI D xs = true ∧ pfA D xs = true := by
  unfold fitsB at h
  rw [Bool.and_eq_true, Bool.and_eq_true, Bool.and_eq_true] at h
  obtain ⟨⟨h1, h2⟩, h3, h4⟩ := h
  have h2 := of_decide_eq_true h2
  exact ⟨h1, h2.1, h2.2, h3, h4⟩
set_option maxRecDepth 100000 in
set_option maxHeartbeats 4000000 in
theorem sWithPoint_ex (A : Option Addr) (cp : Nat) (D : List (List Int)) (B : Option Addr) (cq : Nat) (xs : List Int) (w : World) (h : Mat w A cp D) (hx : Ints w B cq xs) :
    Calls Try.prog 71 #[.slice A D.length cp, .slice B xs.length cq] w (TupR w (wpB D xs) (fitsB D xs)) := by
  have hcm := h.2.1
  have hlc := h.1
  unfold maxLen at hcm
  have hcx := hx.2.1
  have hlx := hx.1
  unfold maxLen at hcx
  have HM := Lib.hid h
  have HI := Lib.hid hx
  have HC := Lib.hid (sPointFits_ex A cp D B cq xs w h hx)
  have HD := Lib.hid (show wpB D xs = if fitsB D xs = true then wpV D xs else [] from rfl)
  clear h hx
  cases hb : fitsB D xs with
  | false =>
    have HF := Lib.hid (show wpB D xs = [] by rw [HD.out, hb]; rfl)
    rw [hb] at HC
    clear hb
    go_enter Try.func71, Try.ntmps71
    go_wp2_with fail
    refine HC.out.mono ?_
    rintro e w1 ⟨rfl, m1, rfl⟩
    go_wp2
    go_ret2
    rw [HF.out]
    exact ⟨_, rfl, AccR.empty (by repeat (first | exact Ext.refl _ | assumption | apply Ext.drewN' | apply Ext.alloc' | refine Ext.trans ?_ (by assumption)))⟩
  | true =>
    have HF := Lib.hid (show wpB D xs = wpV D xs by rw [HD.out, hb]; rfl)
    obtain ⟨hs, h6, hl, -, -⟩ := fits_parts hb
    rw [hb] at HC
    obtain ⟨⟨hn1, hn6⟩, hsq, hcells⟩ := farB_parts (spB_far hs)
    obtain ⟨bk, o, rc, rb, ro, hA, hrow, hlen, hcell, hints⟩ := HM.out.square hsq
    obtain rfl := hA (by omega)
    obtain ⟨-, -, b2, o2, hB, hc2⟩ := HI.out
    obtain rfl := hB (by omega)
    rw [hl] at hc2
    have HROW := Lib.hid hrow
    have HLEN := Lib.hid hlen
    have HX := Lib.hid hc2
    have HXL := Lib.hid hl
    have HSQ := Lib.hid hsq
    have HIN := Lib.hid hints
    have HWL := Lib.hid (wpV_len D xs)
    have HTR := Lib.hid (fun i (hi : i < D.length + 1) => take_row (D := wpV D xs) (i := i) (by rw [wpV_len]; exact hi))
    have HTF := Lib.hid (show (wpV D xs).take (D.length + 1) = wpV D xs from List.take_of_length_le (by rw [wpV_len]; exact Nat.le_refl _))
    have HRW := Lib.hid (fun i (hi : i < D.length) => wpV_row (xs := xs) hi)
    have HRL := Lib.hid (wpV_last D xs)
    have HBD := Lib.hid (fun i => show ((wpV D xs).take i).length ≤ 7 by rw [List.length_take, wpV_len]; omega)
    obtain ⟨n, hn⟩ : ∃ n, D.length = n := ⟨_, rfl⟩
    rw [hn] at hl hlc HROW HLEN HX HXL HIN HTR HTF HRW HRL hn1 hn6 h6
    have HSL := Lib.hid (fun i (hi : i < n) => show (row D i).length = n by rw [HSQ.out i (by omega), hn])
    rw [hl] at hlx
    rw [hl, hn]
    obtain ⟨E, hE⟩ : ∃ E, wpV D xs = E := ⟨_, rfl⟩
    rw [hE] at HTR HTF HRW HRL HF HBD
    rw [hl, hn] at HC
    clear hs hb hsq hcells hrow hlen hcell hB hc2 hn hE HM hints hl HSQ HD
    go_enter Try.func71, Try.ntmps71
    go_wp2_with fail
    refine HC.out.mono ?_
    rintro e w1 ⟨rfl, m1, rfl⟩
    go_wp2
    go_loopg [7, 6] n (fun g s7 s6 wr => ∃ (k : Nat), k + g = n ∧ s7 = .int .i64 k ∧ Hid (AccR w wr s6 (E.take k)))
    case atStart => exact ⟨0, by omega, rfl, Lib.hid (by rw [List.take_zero]; exact AccR.empty (Ext.drewN' (Ext.refl _) _))⟩
    case round =>
      obtain ⟨k, hk, rfl, HR⟩ := hrel
      have hxr := HR.out.x
      by_cases hin : k < n
      · obtain ⟨g', rfl⟩ : ∃ g', gk = g' + 1 := ⟨gk - 1, by omega⟩
        have hin' : (k : Int) < (n : Nat) := by omega
        have hl1 := (HLEN.out k hin).1
        have HTk := Lib.hid (HTR.out k (by omega))
        rw [HRW.out k hin] at HTk
        have hbd := HBD.out k
        have HIk := Lib.hid (HIN.out k hin)
        have HLK := Lib.hid (HSL.out k hin)
        obtain ⟨Y, hY⟩ : ∃ Y, ix xs k = Y := ⟨_, rfl⟩
        rw [hY] at HTk
        have HK2 := Lib.hid (fun W (q : Ext w W) => (show W.cell? ⟨bk, o + k, none⟩ = some (.slice (some ⟨rb k, ro k, none⟩) n (rc k)) ∧ W.cell? ⟨b2, o2 + k, none⟩ = some (.int .i64 Y) from ⟨q.cell (HROW.out k hin), by rw [← hY]; exact q.cell (HX.out k hin)⟩))
        obtain ⟨r, hr⟩ : ∃ r, row D k = r := ⟨_, rfl⟩
        obtain ⟨acc, hacc⟩ : ∃ r, E.take k = r := ⟨_, rfl⟩
        rw [hr] at HTk HIk HLK
        rw [hacc] at HTk hbd HR
        clear hY hr hacc
        have HWR := Lib.hid hxr
        go_wp2_with fail
        go_region_held3 (fun W => W.cell? ⟨bk, o + k, none⟩ = some (.slice (some ⟨rb k, ro k, none⟩) n (rc k)) ∧ W.cell? ⟨b2, o2 + k, none⟩ = some (.int .i64 Y))
          (exact HK2.out _ (by repeat (first | assumption | with_reducible exact Ext.refl _ | with_reducible apply Ext.drew' | with_reducible apply Ext.drewN' | with_reducible apply Ext.alloc')))
          (first
            | ((fail_if_success (have hq := hA26)); refine step_ex rfl _ _ rfl (.slice (some ⟨_, 0, none⟩) 0 0) _ rfl rfl (appIn_run (w0 := wr) (ys := []) rfl Try.underlying31 infoI HLK.out (accNew (by repeat (first | assumption | with_reducible exact Ext.refl _ | with_reducible apply Ext.drew' | with_reducible apply Ext.drewN' | with_reducible apply Ext.alloc')) (by first | with_reducible exact blk_one _ _ | with_reducible exact blk_first _ _ _ | with_reducible exact blk_second _ _ _ | with_reducible exact heap_alloc_new _ _) (by first | omega | simp)) (HIk.out.ext (HWR.out.trans (by repeat (first | assumption | with_reducible exact Ext.refl _ | with_reducible apply Ext.drew' | with_reducible apply Ext.drewN' | with_reducible apply Ext.alloc')))) (by simp [HLK.out]; omega)) ?_; rintro v26 W26 ⟨hA26, hB26, hS26⟩; rw [List.nil_append] at hA26; have hx26 := hA26.x; have hx26w := HWR.out.trans hx26)
            | ((fail_if_success (have hq := hA32)); refine step_ex rfl _ _ rfl v26 (.slice (some ⟨_, 0, none⟩) 1 1) rfl rfl (app_run (w0 := wr) Try.underlying31 infoI rfl (by decide) v26 (r.map (Value.int .i64)) ⟨_, 0, none⟩ 1 1 [.int .i64 Y] rfl (one_news (by first | with_reducible exact cell_new0 _ _ _ | exact cell_beside hB26 (by first | with_reducible exact blk_one _ _ | with_reducible exact blk_first _ _ _ | with_reducible exact blk_second _ _ _) (by simp [Value.ownBlock]; done)) rfl) (map_one [Y]) (hA26.on (by first | with_reducible exact Ext.refl _ | with_reducible exact Ext.alloc _ _)) (by simp [HLK.out]; omega)) ?_; rintro v32 W32 ⟨hA32', hB32, hS32⟩; have hA32 : Acc wr W32 3 v32 ((r ++ [Y]).map (Value.int .i64)) := (by rw [List.map_append]; exact hA32'); obtain ⟨Ar, cr, hv32, -⟩ := (Leaf.of_own hA32.2).1.ints; obtain ⟨L, hL⟩ : ∃ L, (r ++ [Y]).length = L := ⟨_, rfl⟩; rw [hL] at hv32; subst hv32; clear hL; have hx32 := hA32.x; have hx32w := HWR.out.trans hx32; clear hA32')
            | (refine step_ex rfl _ _ rfl _ (.slice (some ⟨_, 0, none⟩) 1 1) rfl rfl (accR_run (u := .slice Ar L cr) rfl Try.underlying23 infoR ⟨_, 0, none⟩ 1 rfl HR.out hA32 (Ext.alloc _ _) (cell_new0 _ _ _) (by omega)) ?_; rintro v34 W34 hR34; have hx34w := hR34.x))
        all_goals
          go_wp2
          go_roundg g'
          case measure => omega
          case rel => exact ⟨k + 1, by omega, by go_num, Lib.hid (by rw [HTk.out]; exact hR34)⟩
      · have hin' : ¬ (k : Int) < (n : Nat) := by omega
        obtain rfl : gk = 0 := by omega
        obtain rfl : k = n := by omega
        have HTk := Lib.hid (HTR.out k (by omega))
        rw [HRL.out, HTF.out] at HTk
        have hbd := HBD.out k
        obtain ⟨acc, hacc⟩ : ∃ r, E.take k = r := ⟨_, rfl⟩
        rw [hacc] at HTk hbd HR
        have HIx := Lib.hid (show Ints wr (some ⟨b2, o2, none⟩) cq xs from HI.out.ext hxr)
        clear HROW HLEN HX HIN hacc HRW HTR HBD
        go_wp2_with (first
          | (at_builtin; (fail_if_success (have hq := hA26)); refine wpList_ex rfl _ _ rfl (.slice (some ⟨_, 0, none⟩) 0 0) _ rfl rfl (appIn_run (w0 := wr) (ys := []) rfl Try.underlying31 infoI HXL.out (accNew (Ext.alloc _ _) (heap_alloc_new _ _) (Nat.le_refl _)) (HIx.out.ext (Ext.alloc _ _)) (by simp [HXL.out]; omega)) ?_; rintro v26 W26 ⟨hA26, hB26, hS26⟩; rw [List.nil_append] at hA26)
          | (at_builtin; (fail_if_success (have hq := hA32)); refine wpList_ex rfl _ _ rfl v26 (.slice (some ⟨_, 0, none⟩) 1 1) rfl rfl (app_run (w0 := wr) Try.underlying31 infoI rfl (by decide) v26 (xs.map (Value.int .i64)) ⟨_, 0, none⟩ 1 1 [.int .i64 0] rfl (one_news (cell_new0 _ _ _) rfl) (map_one [0]) (hA26.on (Ext.alloc _ _)) (by simp [HXL.out]; omega)) ?_; rintro v32 W32 ⟨hA32', hB32, hS32⟩; have hA32 : Acc wr W32 3 v32 ((xs ++ [0]).map (Value.int .i64)) := (by rw [List.map_append]; exact hA32'); obtain ⟨Ar, cr, hv32, -⟩ := (Leaf.of_own hA32.2).1.ints; obtain ⟨L, hL⟩ : ∃ L, (xs ++ [0]).length = L := ⟨_, rfl⟩; rw [hL] at hv32; subst hv32; clear hL hA32')
          | (at_builtin; refine wpList_ex rfl _ _ rfl _ (.slice (some ⟨_, 0, none⟩) 1 1) rfl rfl (accR_run (u := .slice Ar L cr) rfl Try.underlying23 infoR ⟨_, 0, none⟩ 1 rfl HR.out hA32 (Ext.alloc _ _) (cell_new0 _ _ _) (by omega)) ?_; rintro v34 W34 hR34; have hx34w := hR34.x))
        obtain ⟨A9, c9, hv9, hM9⟩ := hR34.mat
        obtain ⟨K, hK⟩ : ∃ K, (acc ++ [xs ++ [0]]).length = K := ⟨_, rfl⟩
        rw [hK] at hv9
        subst hv9
        go_wp2
        go_ret2
        rw [HF.out, HTk.out]
        exact ⟨_, rfl, hR34⟩
set_option maxRecDepth 100000 in
set_option maxHeartbeats 4000000 in
theorem iWithPoint_any (A : Option Addr) (cp : Nat) (D : List (List Int)) (B : Option Addr) (cq : Nat) (xs : List Int) (w : World) (h : Mat w A cp D) (hx : Ints w B cq xs) :
    Calls Try.prog 81 #[.slice A D.length cp, .slice B xs.length cq] w (TupR w (wpB D xs) (fitsB D xs)) := by
  have hcm := h.2.1
  have hlc := h.1
  unfold maxLen at hcm
  have hcx := hx.2.1
  have hlx := hx.1
  unfold maxLen at hcx
  have HM := Lib.hid h
  have HI := Lib.hid hx
  have HC := Lib.hid (pointFits_any A cp D B cq xs w h hx)
  have HD := Lib.hid (show wpB D xs = if fitsB D xs = true then wpV D xs else [] from rfl)
  clear h hx
  cases hb : fitsB D xs with
  | false =>
    have HF := Lib.hid (show wpB D xs = [] by rw [HD.out, hb]; rfl)
    rw [hb] at HC
    clear hb
    go_enter Try.func81, Try.ntmps81
    go_wp2_with fail
    refine HC.out.mono ?_
    rintro e w1 ⟨rfl, m1, rfl⟩
    go_wp2
    go_ret2
    rw [HF.out]
    exact ⟨_, rfl, AccR.nil (by repeat (first | exact Ext.refl _ | assumption | apply Ext.drewN' | apply Ext.alloc' | refine Ext.trans ?_ (by assumption)))⟩
  | true =>
    have HF := Lib.hid (show wpB D xs = wpV D xs by rw [HD.out, hb]; rfl)
    obtain ⟨hs, h6, hl, -, -⟩ := fits_parts hb
    rw [hb] at HC
    obtain ⟨⟨hn1, hn6⟩, hsq, hcells⟩ := farB_parts (spB_far hs)
    obtain ⟨bk, o, rc, rb, ro, hA, hrow, hlen, hcell, hints⟩ := HM.out.square hsq
    obtain rfl := hA (by omega)
    obtain ⟨-, -, b2, o2, hB, hc2⟩ := HI.out
    obtain rfl := hB (by omega)
    rw [hl] at hc2
    have HROW := Lib.hid hrow
    have HLEN := Lib.hid hlen
    have HX := Lib.hid hc2
    have HXL := Lib.hid hl
    have HSQ := Lib.hid hsq
    have HIN := Lib.hid hints
    have HWL := Lib.hid (wpV_len D xs)
    have HTR := Lib.hid (fun i (hi : i < D.length + 1) => take_row (D := wpV D xs) (i := i) (by rw [wpV_len]; exact hi))
    have HTF := Lib.hid (show (wpV D xs).take (D.length + 1) = wpV D xs from List.take_of_length_le (by rw [wpV_len]; exact Nat.le_refl _))
    have HRW := Lib.hid (fun i (hi : i < D.length) => wpV_row (xs := xs) hi)
    have HRL := Lib.hid (wpV_last D xs)
    have HBD := Lib.hid (fun i => show ((wpV D xs).take i).length ≤ 7 by rw [List.length_take, wpV_len]; omega)
    obtain ⟨n, hn⟩ : ∃ n, D.length = n := ⟨_, rfl⟩
    rw [hn] at hl hlc HROW HLEN HX HXL HIN HTR HTF HRW HRL hn1 hn6 h6
    have HSL := Lib.hid (fun i (hi : i < n) => show (row D i).length = n by rw [HSQ.out i (by omega), hn])
    rw [hl] at hlx
    rw [hl, hn]
    obtain ⟨E, hE⟩ : ∃ E, wpV D xs = E := ⟨_, rfl⟩
    rw [hE] at HTR HTF HRW HRL HF HBD
    rw [hl, hn] at HC
    clear hs hb hsq hcells hrow hlen hcell hB hc2 hn hE HM hints hl HSQ HD
    go_enter Try.func81, Try.ntmps81
    go_wp2_with fail
    refine HC.out.mono ?_
    rintro e w1 ⟨rfl, m1, rfl⟩
    go_wp2
    go_loopg [16, 6] n (fun g s16 s6 wr => ∃ (k : Nat), k + g = n ∧ s16 = .int .i64 k ∧ Hid (AccR w wr s6 (E.take k)))
    case atStart => exact ⟨0, by omega, rfl, Lib.hid (by rw [List.take_zero]; exact AccR.empty (Ext.drewN' (Ext.refl _) _))⟩
    case round =>
      obtain ⟨k, hk, rfl, HR⟩ := hrel
      have hxr := HR.out.x
      by_cases hin : k < n
      · obtain ⟨g', rfl⟩ : ∃ g', gk = g' + 1 := ⟨gk - 1, by omega⟩
        have hin' : (k : Int) < (n : Nat) := by omega
        have hl1 := (HLEN.out k hin).1
        have HTk := Lib.hid (HTR.out k (by omega))
        rw [HRW.out k hin] at HTk
        have hbd := HBD.out k
        have HIk := Lib.hid (HIN.out k hin)
        have HLK := Lib.hid (HSL.out k hin)
        obtain ⟨Y, hY⟩ : ∃ Y, ix xs k = Y := ⟨_, rfl⟩
        rw [hY] at HTk
        have c1 := hxr.cell (HROW.out k hin)
        have HK2 := Lib.hid (fun W (q : Ext w W) => (show W.cell? ⟨b2, o2 + k, none⟩ = some (.int .i64 Y) from by rw [← hY]; exact q.cell (HX.out k hin)))
        obtain ⟨r, hr⟩ : ∃ r, row D k = r := ⟨_, rfl⟩
        obtain ⟨acc, hacc⟩ : ∃ r, E.take k = r := ⟨_, rfl⟩
        rw [hr] at HTk HIk HLK
        rw [hacc] at HTk hbd HR
        clear hY hr hacc
        have HWR := Lib.hid hxr
        go_wp2_with fail
        go_region_held3 (fun W => W.cell? ⟨b2, o2 + k, none⟩ = some (.int .i64 Y))
          (exact HK2.out _ (by repeat (first | assumption | with_reducible exact Ext.refl _ | with_reducible apply Ext.drew' | with_reducible apply Ext.drewN' | with_reducible apply Ext.alloc')))
          (first
            | ((fail_if_success (have hq := hA26)); refine step_ex rfl _ _ rfl (.slice (some ⟨_, 0, none⟩) 0 0) _ rfl rfl (appIn_run (w0 := wr) (ys := []) rfl Try.underlying31 infoI HLK.out (accNew (by repeat (first | assumption | with_reducible exact Ext.refl _ | with_reducible apply Ext.drew' | with_reducible apply Ext.drewN' | with_reducible apply Ext.alloc')) (by first | with_reducible exact blk_one _ _ | with_reducible exact blk_first _ _ _ | with_reducible exact blk_second _ _ _ | with_reducible exact heap_alloc_new _ _) (by first | omega | simp)) (HIk.out.ext (HWR.out.trans (by repeat (first | assumption | with_reducible exact Ext.refl _ | with_reducible apply Ext.drew' | with_reducible apply Ext.drewN' | with_reducible apply Ext.alloc')))) (by simp [HLK.out]; omega)) ?_; rintro v26 W26 ⟨hA26, hB26, hS26⟩; rw [List.nil_append] at hA26; have hx26 := hA26.x; have hx26w := HWR.out.trans hx26)
            | ((fail_if_success (have hq := hA32)); refine step_ex rfl _ _ rfl v26 (.slice (some ⟨_, 0, none⟩) 1 1) rfl rfl (app_run (w0 := wr) Try.underlying31 infoI rfl (by decide) v26 (r.map (Value.int .i64)) ⟨_, 0, none⟩ 1 1 [.int .i64 Y] rfl (one_news (by first | with_reducible exact cell_new0 _ _ _ | exact cell_beside hB26 (by first | with_reducible exact blk_one _ _ | with_reducible exact blk_first _ _ _ | with_reducible exact blk_second _ _ _) (by simp [Value.ownBlock]; done)) rfl) (map_one [Y]) (hA26.on (by first | with_reducible exact Ext.refl _ | with_reducible exact Ext.alloc _ _)) (by simp [HLK.out]; omega)) ?_; rintro v32 W32 ⟨hA32', hB32, hS32⟩; have hA32 : Acc wr W32 3 v32 ((r ++ [Y]).map (Value.int .i64)) := (by rw [List.map_append]; exact hA32'); obtain ⟨Ar, cr, hv32, -⟩ := (Leaf.of_own hA32.2).1.ints; obtain ⟨L, hL⟩ : ∃ L, (r ++ [Y]).length = L := ⟨_, rfl⟩; rw [hL] at hv32; subst hv32; clear hL; have hx32 := hA32.x; have hx32w := HWR.out.trans hx32; clear hA32')
            | (refine step_ex rfl _ _ rfl _ (.slice (some ⟨_, 0, none⟩) 1 1) rfl rfl (accR_run (u := .slice Ar L cr) rfl Try.underlying23 infoR ⟨_, 0, none⟩ 1 rfl HR.out hA32 (Ext.alloc _ _) (cell_new0 _ _ _) (by omega)) ?_; rintro v34 W34 hR34; have hx34w := hR34.x))
        all_goals
          go_wp2
          go_roundg g'
          case measure => omega
          case rel => exact ⟨k + 1, by omega, by go_num, Lib.hid (by rw [HTk.out]; exact hR34)⟩
      · have hin' : ¬ (k : Int) < (n : Nat) := by omega
        obtain rfl : gk = 0 := by omega
        obtain rfl : k = n := by omega
        have HTk := Lib.hid (HTR.out k (by omega))
        rw [HRL.out, HTF.out] at HTk
        have hbd := HBD.out k
        obtain ⟨acc, hacc⟩ : ∃ r, E.take k = r := ⟨_, rfl⟩
        rw [hacc] at HTk hbd HR
        have HIx := Lib.hid (show Ints wr (some ⟨b2, o2, none⟩) cq xs from HI.out.ext hxr)
        clear HROW HLEN HX HIN hacc HRW HTR HBD
        go_wp2_with (first
          | (at_builtin; (fail_if_success (have hq := hA26)); refine wpList_ex rfl _ _ rfl (.slice (some ⟨_, 0, none⟩) 0 0) _ rfl rfl (appIn_run (w0 := wr) (ys := []) rfl Try.underlying31 infoI HXL.out (accNew (Ext.alloc _ _) (heap_alloc_new _ _) (Nat.le_refl _)) (HIx.out.ext (Ext.alloc _ _)) (by simp [HXL.out]; omega)) ?_; rintro v26 W26 ⟨hA26, hB26, hS26⟩; rw [List.nil_append] at hA26)
          | (at_builtin; (fail_if_success (have hq := hA32)); refine wpList_ex rfl _ _ rfl v26 (.slice (some ⟨_, 0, none⟩) 1 1) rfl rfl (app_run (w0 := wr) Try.underlying31 infoI rfl (by decide) v26 (xs.map (Value.int .i64)) ⟨_, 0, none⟩ 1 1 [.int .i64 0] rfl (one_news (cell_new0 _ _ _) rfl) (map_one [0]) (hA26.on (Ext.alloc _ _)) (by simp [HXL.out]; omega)) ?_; rintro v32 W32 ⟨hA32', hB32, hS32⟩; have hA32 : Acc wr W32 3 v32 ((xs ++ [0]).map (Value.int .i64)) := (by rw [List.map_append]; exact hA32'); obtain ⟨Ar, cr, hv32, -⟩ := (Leaf.of_own hA32.2).1.ints; obtain ⟨L, hL⟩ : ∃ L, (xs ++ [0]).length = L := ⟨_, rfl⟩; rw [hL] at hv32; subst hv32; clear hL hA32')
          | (at_builtin; refine wpList_ex rfl _ _ rfl _ (.slice (some ⟨_, 0, none⟩) 1 1) rfl rfl (accR_run (u := .slice Ar L cr) rfl Try.underlying23 infoR ⟨_, 0, none⟩ 1 rfl HR.out hA32 (Ext.alloc _ _) (cell_new0 _ _ _) (by omega)) ?_; rintro v34 W34 hR34; have hx34w := hR34.x))
        obtain ⟨A9, c9, hv9, hM9⟩ := hR34.mat
        obtain ⟨K, hK⟩ : ∃ K, (acc ++ [xs ++ [0]]).length = K := ⟨_, rfl⟩
        rw [hK] at hv9
        subst hv9
        go_wp2
        go_ret2
        rw [HF.out, HTk.out]
        exact ⟨_, rfl, hR34⟩
end Go.Proofs.Ytbkefojepelggaa
