/- What is proved: spec.WithPoint returns rows in memory of its own. Conditions: those of the contract. -/
import Derived.Test.YtjaigidlpfdfiaaPFit
namespace Go.Proofs.Ytjaigidlpfdfiaa
open Go.RowKit
theorem Ext.drew' {a w : World} (h : Ext a w) : Ext a w.drew := h.drewN' 1
theorem blk_one (w : World) (A : Obj) : (w.alloc A).drew.heap[w.heap.size]? = some A := heap_alloc_new w A
theorem blk_second (w : World) (A B : Obj) : ((w.alloc A).alloc B).drew.heap[w.heap.size + 1]? = some B := by
  have h1 := heap_alloc_new (w.alloc A) B
  have e : (w.alloc A).heap.size = w.heap.size + 1 := by simp
  rw [e] at h1
  exact h1
theorem blk_first (w : World) (A B : Obj) : ((w.alloc A).alloc B).drew.heap[w.heap.size]? = some A := by
  rw [← blk_one w A]
  exact Below.heap_alloc (w.alloc A) B _ (by simp)
def WPt (w : World) (e : Ending) (w' : World) : Prop := ∃ A1 c1 E b, e = .returned (.tuple #[.slice A1 (List.length E) c1, .bool b]) ∧ Mat w' A1 c1 E ∧ Ext w w'
theorem RowsM.done {w0 W : World} {v : Value} {k : Nat} (h : RowsM w0 W v k) : ∃ A c E, v = .slice A (List.length E) c ∧ Mat W A c E ∧ Ext w0 W := by
  obtain ⟨D, V, _, h1⟩ := h
  obtain ⟨A, c, V', e, hL, -, -, hx⟩ := h1.done
  exact ⟨A, c, D, by injection e, hL.mat, hx⟩
set_option maxRecDepth 100000 in
set_option maxHeartbeats 4000000 in
theorem sWithPoint_any (A : Option Addr) (cp : Nat) (D : List (List Int)) (B : Option Addr) (cq : Nat) (xs : List Int) (w : World) (h : Mat w A cp D) (hx : Ints w B cq xs) (hb : ∀ i, i < xs.length → 0 ≤ ix xs i ∧ ix xs i ≤ 1000) :
    Calls Try.prog 59 #[.slice A D.length cp, .slice B xs.length cq] w (WPt w) := by
  have hcm := h.2.1
  have hlc := h.1
  unfold maxLen at hcm
  have hcx := hx.2.1
  have hlx := hx.1
  unfold maxLen at hcx
  have HM := Lib.hid h
  have HI := Lib.hid hx
  have HC := Lib.hid (sPointFits_any A cp D B cq xs w h hx hb)
  clear h hx hb
  go_enter Try.func59, Try.ntmps59
  go_wp2_with fail
  refine HC.out.mono ?_
  rintro e w1 ⟨b, rfl, hbt, m1, rfl⟩
  cases b with
  | false =>
    clear hbt
    go_wp2
    go_ret2
    exact ⟨_, _, [], _, rfl, Mat.nil _ _ _ (Nat.zero_le _), (by repeat (first | exact Ext.refl _ | assumption | apply Ext.drewN' | apply Ext.alloc' | refine Ext.trans ?_ (by assumption)))⟩
  | true =>
    obtain ⟨hs, h6, hl⟩ := hbt rfl
    obtain ⟨⟨hn1, hn6⟩, hsq, hcells⟩ := farB_parts (spB_far hs)
    obtain ⟨bk, o, rc, rb, ro, hA, hrow, hlen, hcell, -⟩ := HM.out.square hsq
    obtain rfl := hA (by omega)
    obtain ⟨-, -, b2, o2, hB, hc2⟩ := HI.out
    obtain rfl := hB (by omega)
    rw [hl] at hc2
    have HROW := Lib.hid hrow
    have HLEN := Lib.hid hlen
    have HCE := Lib.hid hcell
    have HX := Lib.hid hc2
    have HXL := Lib.hid hl
    have HSQ := Lib.hid hsq
    obtain ⟨n, hn⟩ : ∃ n, xs.length = n := ⟨_, rfl⟩
    rw [hn] at hl hlx
    rw [hn]
    subst hl
    clear hs hsq hcells hrow hlen hcell hA hB hc2 hn hbt HC HM HI
    go_wp2
    go_loopg [7, 6] D.length (fun g s7 s6 wr => ∃ (k : Nat), k + g = D.length ∧ s7 = .int .i64 k ∧ Hid (RowsM w wr s6 k))
    case atStart => exact ⟨0, by omega, rfl, Lib.hid (RowsM.empty (Ext.drewN' (Ext.refl _) _))⟩
    case round =>
      obtain ⟨k, hk, rfl, HR⟩ := hrel
      have hxr := HR.out.x
      by_cases hin : k < D.length
      · obtain ⟨g', rfl⟩ : ∃ g', gk = g' + 1 := ⟨gk - 1, by omega⟩
        have hin' : (k : Int) < (D.length : Nat) := by omega
        have r1 := hxr.cell (HROW.out k hin)
        have x1 := hxr.cell (HX.out k hin)
        have hl1 := (HLEN.out k hin).1
        have HNEWS := Lib.hid (fun W (q : Ext wr W) => ints_news (W := W) (b := rb k) (o := ro k) (xs := row D k) (HSQ.out k hin) (fun j hj => (hxr.trans q).cell (HCE.out k hin j hj)))
        obtain ⟨Y, hY⟩ : ∃ Y, ix xs k = Y := ⟨_, rfl⟩
        rw [hY] at x1
        have HK2 := Lib.hid (fun W (q : Ext w W) => (show W.cell? ⟨bk, o + k, none⟩ = some (.slice (some ⟨rb k, ro k, none⟩) D.length (rc k)) ∧ W.cell? ⟨b2, o2 + k, none⟩ = some (.int .i64 Y) from ⟨q.cell (HROW.out k hin), by rw [← hY]; exact q.cell (HX.out k hin)⟩))
        have HLK := Lib.hid (HSQ.out k hin)
        clear hY r1 x1
        go_wp2_with fail
        go_region_held3 (fun W => W.cell? ⟨bk, o + k, none⟩ = some (.slice (some ⟨rb k, ro k, none⟩) D.length (rc k)) ∧ W.cell? ⟨b2, o2 + k, none⟩ = some (.int .i64 Y))
          (exact HK2.out _ (by repeat (first | assumption | with_reducible exact Ext.refl _ | with_reducible apply Ext.drew' | with_reducible apply Ext.alloc')))
          (first
            | ((fail_if_success (have hq := hA26)); refine step_ex rfl _ _ rfl (.slice (some ⟨_, 0, none⟩) 0 0) _ rfl rfl (app_run (w0 := wr) Try.underlying39 infoI rfl (by decide) _ [] ⟨rb k, ro k, none⟩ D.length (rc k) ((row D k).map (Value.int .i64)) (by simp [HLK.out]) (HNEWS.out _ (by repeat (first | assumption | with_reducible exact Ext.refl _ | with_reducible apply Ext.drew' | with_reducible apply Ext.alloc'))) (map_one _) (accNew (by repeat (first | assumption | with_reducible exact Ext.refl _ | with_reducible apply Ext.drew' | with_reducible apply Ext.alloc')) (by first | with_reducible exact blk_one _ _ | with_reducible exact blk_first _ _ _ | with_reducible exact blk_second _ _ _) (by omega)) (by simp; omega)) ?_; rintro v26 W26 ⟨hA26, hB26, hS26⟩; have hx26 := hA26.x; have hx26w := hxr.trans hx26)
            | ((fail_if_success (have hq := hA32)); refine step_ex rfl _ _ rfl v26 (.slice (some ⟨_, 0, none⟩) 1 1) rfl rfl (app_run (w0 := wr) Try.underlying39 infoI rfl (by decide) v26 ((row D k).map (Value.int .i64)) ⟨_, 0, none⟩ 1 1 [.int .i64 Y] rfl (one_news (by first | with_reducible exact cell_new0 _ _ _ | exact cell_beside hB26 (by first | with_reducible exact blk_one _ _ | with_reducible exact blk_first _ _ _ | with_reducible exact blk_second _ _ _) (by simp [Value.ownBlock]; done)) rfl) (map_one [Y]) (hA26.on (by first | with_reducible exact Ext.refl _ | with_reducible exact Ext.alloc _ _)) (by simp [HLK.out]; omega)) ?_; rintro v32 W32 ⟨hA32', hB32, hS32⟩; have hA32 : Acc wr W32 3 v32 ((row D k ++ [Y]).map (Value.int .i64)) := (by rw [List.map_append]; exact hA32'); obtain ⟨Ar, cr, hv32, -⟩ := (Leaf.of_own hA32.2).1.ints; obtain ⟨L, hL⟩ : ∃ L, (row D k ++ [Y]).length = L := ⟨_, rfl⟩; rw [hL] at hv32; subst hv32; clear hL; have hx32 := hA32.x; have hx32w := hxr.trans hx32; clear hA32')
            | (refine step_ex rfl _ _ rfl _ (.slice (some ⟨_, 0, none⟩) 1 1) rfl rfl (rows_run (u := .slice Ar L cr) rfl Try.underlying23 infoR _ (row D k ++ [Y]) ⟨_, 0, none⟩ 1 rfl HR.out hA32 (Ext.alloc _ _) (cell_new0 _ _ _) (by omega)) ?_; rintro v34 W34 hR34; have hx34w := hR34.x))
        all_goals
          go_wp2
          go_roundg g'
          case measure => omega
          case rel => exact ⟨k + 1, by omega, by go_num, Lib.hid hR34⟩
      · have hin' : ¬ (k : Int) < (D.length : Nat) := by omega
        obtain rfl : gk = 0 := by omega
        obtain rfl : k = D.length := by omega
        have HNEWS := Lib.hid (fun W (q : Ext wr W) => ints_news (W := W) (b := b2) (o := o2) (xs := xs) HXL.out (fun j hj => (hxr.trans q).cell (HX.out j hj)))
        clear HROW HLEN HCE HX HSQ
        go_wp2_with (first
          | (at_builtin; (fail_if_success (have hq := hA26)); refine wpList_ex rfl _ _ rfl (.slice (some ⟨_, 0, none⟩) 0 0) _ rfl rfl (app_run (w0 := wr) Try.underlying39 infoI rfl (by decide) _ [] ⟨b2, o2, none⟩ D.length cq (xs.map (Value.int .i64)) (by simp [HXL.out]) (HNEWS.out _ (Ext.alloc _ _)) (map_one _) (accNew (Ext.alloc _ _) (heap_alloc_new _ _) (Nat.le_refl _)) (by simp; omega)) ?_; rintro v26 W26 ⟨hA26, hB26, hS26⟩)
          | (at_builtin; (fail_if_success (have hq := hA32)); refine wpList_ex rfl _ _ rfl v26 (.slice (some ⟨_, 0, none⟩) 1 1) rfl rfl (app_run (w0 := wr) Try.underlying39 infoI rfl (by decide) v26 (xs.map (Value.int .i64)) ⟨_, 0, none⟩ 1 1 [.int .i64 0] rfl (one_news (cell_new0 _ _ _) rfl) (map_one [0]) (hA26.on (Ext.alloc _ _)) (by simp [HXL.out]; omega)) ?_; rintro v32 W32 ⟨hA32', hB32, hS32⟩; have hA32 : Acc wr W32 3 v32 ((xs ++ [0]).map (Value.int .i64)) := (by rw [List.map_append]; exact hA32'); obtain ⟨Ar, cr, hv32, -⟩ := (Leaf.of_own hA32.2).1.ints; obtain ⟨L, hL⟩ : ∃ L, (xs ++ [0]).length = L := ⟨_, rfl⟩; rw [hL] at hv32; subst hv32; clear hL hA32')
          | (at_builtin; refine wpList_ex rfl _ _ rfl _ (.slice (some ⟨_, 0, none⟩) 1 1) rfl rfl (rows_run (u := .slice Ar L cr) rfl Try.underlying23 infoR _ (xs ++ [0]) ⟨_, 0, none⟩ 1 rfl HR.out hA32 (Ext.alloc _ _) (cell_new0 _ _ _) (by omega)) ?_; rintro v34 W34 hR34; have hx34w := hR34.x))
        obtain ⟨A9, c9, E9, rfl, hM9, hx9⟩ := hR34.done
        go_wp2
        go_ret2
        exact ⟨A9, c9, E9, true, rfl, hM9, hx9⟩
end Go.Proofs.Ytjaigidlpfdfiaa
