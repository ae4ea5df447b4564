/- What is proved: impl.DeskRun. Conditions: those of each contract. -/
import Derived.Test.YtcejdgnfmcgopaaGreatDoorDl
namespace Go.Proofs.YtcejdgnfmcgopaaGreatDoor
open Go.RowKit
/-- the desk in the block behind w, of one's own, and the result's block -/
def RunS (w : World) (D : List (List Int)) (L : List (List (List Int))) (W : World) : Prop :=
  Ext w W ∧ (∃ A c B d, W.heap[w.heap.size]? = some (.cells #[.slice A D.length c, .slice B L.length d] 26 (0, 0)) ∧ OwnDk w.heap.size W (.agg #[.slice A D.length c, .slice B L.length d]) D L) ∧ ∃ x y, W.heap[w.heap.size + 1]? = some (.cells #[x, y] 26 (0, 0))
theorem RunS.take {w W W' : World} {D D' : List (List Int)} {L L' : List (List (List Int))} (h : RunS w D L W) (k : Ext W W') {A : Option Addr} {c : Nat} {B : Option Addr} {d : Nat} (hO : OwnDk W.heap.size W' (.agg #[.slice A D'.length c, .slice B L'.length d]) D' L') :
    RunS w D' L' ((W'.setCell ⟨w.heap.size, 0, none⟩ (.slice A D'.length c)).setCell ⟨w.heap.size, 1, none⟩ (.slice B L'.length d)) := by
  obtain ⟨h1, ⟨A0, c0, B0, d0, h2, h3⟩, x, y, h4⟩ := h
  have b2 := (k.block (heap_lt h2)).trans h2
  have b4 := (k.block (heap_lt h4)).trans h4
  refine ⟨((h1.trans k).setCell' (p := ⟨w.heap.size, 0, none⟩) (Nat.le_refl _) _).setCell' (p := ⟨w.heap.size, 1, none⟩) (Nat.le_refl _) _, ⟨A, c, B, d, set_1 (set_0 b2), (hO.low h1.size).keep (keepB_set2 b2 _ _).2.2.2.2.2.2⟩, x, y, set_far (set_far b4 ?_) ?_⟩
  · show w.heap.size + 1 ≠ w.heap.size; omega
  · show w.heap.size + 1 ≠ w.heap.size; omega
theorem RunS.ext {w W W' : World} {D : List (List Int)} {L : List (List (List Int))} (h : RunS w D L W) (k : Ext W W') : RunS w D L W' := by
  obtain ⟨h1, ⟨A0, c0, B0, d0, h2, h3⟩, x, y, h4⟩ := h
  exact ⟨h1.trans k, ⟨A0, c0, B0, d0, (k.block (heap_lt h2)).trans h2, h3.keep (KeepB.of_ext k)⟩, x, y, (k.block (heap_lt h4)).trans h4⟩
theorem RunS.start {w W : World} {D : List (List Int)} {L : List (List (List Int))} {a b x y : Value} (k : Ext ((w.alloc (.cells #[a, b] 26)).alloc (.cells #[x, y] 26)) W) {A : Option Addr} {c : Nat} {B : Option Addr} {d : Nat} {bs : Nat} (hb : w.heap.size ≤ bs) (hO : OwnDk bs W (.agg #[.slice A D.length c, .slice B L.length d]) D L) :
    RunS w D L ((W.setCell ⟨w.heap.size, 0, none⟩ (.slice A D.length c)).setCell ⟨w.heap.size, 1, none⟩ (.slice B L.length d)) := by
  obtain ⟨b0, b1, hx, -⟩ := two_blocks k
  refine ⟨(hx.setCell' (p := ⟨w.heap.size, 0, none⟩) (Nat.le_refl _) _).setCell' (p := ⟨w.heap.size, 1, none⟩) (Nat.le_refl _) _, ⟨A, c, B, d, set_1 (set_0 b0), (hO.low hb).keep (keepB_set2 b0 _ _).2.2.2.2.2.2⟩, x, y, set_far (set_far b1 ?_) ?_⟩
  · show w.heap.size + 1 ≠ w.heap.size; omega
  · show w.heap.size + 1 ≠ w.heap.size; omega
/-- what DeskRun hands back -/
def RunR (w : World) (D : List (List Int)) (L : List (List (List Int))) (n : Int) (e : Ending) (w' : World) : Prop := ∃ v, e = .returned (.tuple #[v, .int .i64 n]) ∧ OwnDk w.heap.size w' v D L ∧ Ext w w'
set_option maxRecDepth 100000 in
set_option maxHeartbeats 8000000 in
theorem iDeskRun_any (A B : Option Addr) (c d : Nat) (D : List (List Int)) (L : List (List (List Int))) (X : Option Addr) (cx : Nat) (ds : List (Int × List Int)) (w : World) (h1 : Mat w A c D) (h2 : MatS w B d L) (hx : DeedsM w X cx ds) :
    Calls Tryz.prog 34 #[.agg #[.slice A D.length c, .slice B L.length d], .slice X ds.length cx] w (RunR w (runV D L ds).1 (runV D L ds).2.1 (runV D L ds).2.2) := by
  have H1 := Lib.hid h1
  have H2 := Lib.hid h2
  have HX := Lib.hid hx
  clear h1 h2 hx
  have HDK := Lib.hid (fun W (q : Ext w W) => isDesk_any A B c d D L W (H1.out.ext q) (H2.out.ext q))
  have hb0 := fun W (q : Ext ((w.alloc (.cells #[.slice A D.length c, .slice B L.length d] 26)).alloc (.cells #[.slice none 0 0, .slice none 0 0] 26)) W) => two_blocks q
  have HB0 := Lib.hid hb0
  have HXT := Lib.hid (show Ext w ((w.alloc (.cells #[.slice A D.length c, .slice B L.length d] 26)).alloc (.cells #[.slice none 0 0, .slice none 0 0] 26)) from (Ext.alloc _ _).alloc' _)
  clear hb0
  cases hd : deskB D L with
  | false =>
    have HV : Hid (runV D L ds = ([], [], 0)) := Lib.hid (by unfold runV; rw [if_neg (by rw [hd]; simp)])
    rw [hd] at HDK
    rw [HV.out]
    clear hd
    go_enter Tryz.func34, Tryz.ntmps34
    go_wp2_with fail
    refine (HDK.out _ HXT.out).mono ?_
    rintro e w1 ⟨rfl, hx1⟩
    obtain ⟨b0, b1, hx, -⟩ := HB0.out w1 hx1
    obtain ⟨t1, t2, t3, t4, t5, t6, -⟩ := keepB_set2 (b := 0) b1 (.slice none 0 0) (.slice none 0 0)
    go_wp2
    refine bodyPost_ret (v := .tuple #[.agg #[.slice none 0 0, .slice none 0 0], .int .i64 0]) (by simp [results, Tryz.results34, go_sem, t5, t6]) rfl ?_
    exact ⟨_, rfl, zero_desk' _ _, (hx.setCell' (p := ⟨w.heap.size + 1, 0, none⟩) (by show w.heap.size ≤ w.heap.size + 1; omega) _).setCell' (p := ⟨w.heap.size + 1, 1, none⟩) (by show w.heap.size ≤ w.heap.size + 1; omega) _⟩
  | true =>
    rw [hd] at HDK
    by_cases hl : ds.length ≤ 40
    · have HV : Hid (runV D L ds = runR ds ds.length 0 D L 0) := Lib.hid (by unfold runV; rw [if_pos ⟨hd, hl⟩])
      have hl' : ¬ (40 : Int) < (ds.length : Nat) := by omega
      have HDB := Lib.hid hd
      clear hd
      go_enter Tryz.func34, Tryz.ntmps34
      go_wp2_with fail
      refine (HDK.out _ HXT.out).mono ?_
      rintro e w1 ⟨rfl, hx1⟩
      obtain ⟨b0, b1, hx, -⟩ := HB0.out w1 hx1
      obtain ⟨t0, t1⟩ := two_cells b0
      go_wp2_with fail
      refine (copyDesk_any A B c d D L _ (H1.out.ext hx) (H2.out.ext hx) (deskB_sm HDB.out)).mono ?_
      rintro e w2 ⟨v2, rfl, hO2, hx2⟩
      obtain ⟨A2, c2, B2, d2, rfl, -, -, hc2, hd2⟩ := hO2.split
      have HS2 := Lib.hid (RunS.start (hx1.trans hx2) hx.size hO2)
      clear b0 b1 t0 t1
      obtain ⟨b0, b1, -, -⟩ := HB0.out w2 (hx1.trans hx2)
      obtain ⟨t1, t2, t3, t4, t5, t6, -⟩ := keepB_set2 (b := 0) b0 (.slice A2 D.length c2) (.slice B2 L.length d2)
      clear b0 b1 hO2
      obtain ⟨bX, oX, RX, rX, hAX, hkX, hxX, hiX⟩ := HX.out.parts
      have HRX := Lib.hid (fun W (q : Ext w W) i (hi : i < ds.length) => And.intro (q.cell (hkX i hi)) (And.intro (q.cell (hxX i hi)) ((hiX i hi).ext q)))
      clear hkX hxX hiX hx1 hx2 hx HDK
      go_wp2_with fail
      clear t1 t2 t3 t4 t5 t6
      go_loopg [24, 6] ds.length (fun g s24 s6 wr => ∃ (i : Nat) (D' : List (List Int)) (L' : List (List (List Int))) (m : Int), i + g = ds.length ∧ s24 = .int .i64 i ∧ s6 = .int .i64 m ∧ (0 ≤ m ∧ m ≤ i) ∧ Hid (deskB D' L' = true ∧ runR ds g i D' L' m = runV D L ds) ∧ Hid (RunS w D' L' wr))
      case atStart => exact ⟨0, D, L, 0, by omega, rfl, rfl, by omega, Lib.hid ⟨HDB.out, HV.out.symm⟩, HS2⟩
      case round =>
        clear HS2
        obtain ⟨i, D', L', m, hi, rfl, rfl, ⟨m0, m1⟩, HI, HS⟩ := hrel
        obtain ⟨hxw, ⟨A5, c5, B5, d5, hb5, hO5⟩, x5, y5, hb6⟩ := HS.out
        by_cases hin : i < ds.length
        · obtain ⟨g1, rfl⟩ : ∃ g', gk = g' + 1 := ⟨gk - 1, by omega⟩
          have hin' : (i : Int) < (ds.length : Nat) := by omega
          obtain rfl := hAX (by omega)
          obtain ⟨r1, r2, r3⟩ := HRX.out wr hxw i hin
          obtain ⟨kd, hkd⟩ : ∃ k, dk ds i = k := ⟨_, rfl⟩
          obtain ⟨xd, hxd⟩ : ∃ k, dx ds i = k := ⟨_, rfl⟩
          rw [hkd] at r1
          rw [hxd] at r2 r3
          have hst : ∀ g, runR ds (g + 1) i D' L' m = if doB D' L' kd xd = true then runR ds g (i + 1) (doD D' L' kd xd) (doL D' L' kd xd) (m + 1) else runR ds g (i + 1) D' L' m := by
            intro g; rw [← hkd, ← hxd]; rfl
          have HI2 := HI.out.2
          rw [hst] at HI2
          have HST := Lib.hid HI2
          have HDR := Lib.hid (HI.out.1)
          obtain ⟨-, -, hM5, hS5⟩ : True ∧ True ∧ Mat wr A5 c5 D' ∧ MatS wr B5 d5 L' := by
            obtain ⟨Aq, cq, Bq, dq, eq, m1q, m2q, -, -⟩ := hO5.split
            simp only [Value.agg.injEq, Array.mk.injEq, List.cons.injEq, Value.slice.injEq] at eq
            obtain ⟨⟨rfl, -, rfl⟩, ⟨rfl, -, rfl⟩, -⟩ := eq
            exact ⟨trivial, trivial, m1q, m2q⟩
          have HC := Lib.hid (fun W (q : Ext wr W) => deskDo_any A5 B5 c5 d5 D' L' kd (RX i) (rX i) xd W (hM5.ext q) (hS5.ext q) (r3.ext q) HDR.out)
          obtain ⟨p0, p1⟩ := two_cells hb5
          have p0' : ∀ o, (wr.alloc o).cell? ⟨w.heap.size, 0, none⟩ = some _ := fun o => (Ext.alloc wr o).cell p0
          have p1' : ∀ o, (wr.alloc o).cell? ⟨w.heap.size, 1, none⟩ = some _ := fun o => (Ext.alloc wr o).cell p1
          clear hM5 hS5 r3 hst HI2 HI hkd hxd
          go_wp2_with fail
          refine (HC.out _ (Ext.alloc _ _)).mono ?_
          rintro e w6 ⟨v6, rfl, hO6, hx6⟩
          have hxr : Ext wr w6 := (Ext.alloc _ _).trans hx6
          obtain ⟨A6, c6, B6, d6, rfl, -, -, -, -⟩ := hO6.split
          obtain ⟨bo, hbo⟩ : ∃ b, doB D' L' kd xd = b := ⟨_, rfl⟩
          have HO6 := Lib.hid (hO6.low (b' := wr.heap.size) (by simp))
          have HDN := Lib.hid (do_desk (kind := kd) (xs := xd) HDR.out)
          rw [hbo] at HST
          obtain ⟨D6, hD6⟩ : ∃ x, doD D' L' kd xd = x := ⟨_, rfl⟩
          obtain ⟨L6, hL6⟩ : ∃ x, doL D' L' kd xd = x := ⟨_, rfl⟩
          rw [hD6, hL6] at HST HO6 HDN
          rw [hbo, hD6, hL6]
          have HST2 := Lib.hid (HST.out)
          clear p0 p1 p0' p1' hbo HST HC hO6 hD6 hL6 hxw hb5 hO5 hb6 r1 r2
          cases bo with
          | false =>
            go_wp2
            go_roundg g1
            case measure => omega
            case rel => exact ⟨i + 1, D', L', m, by omega, by go_num, rfl, by omega, Lib.hid ⟨HDR.out, HST2.out⟩, Lib.hid (HS.out.ext (hxr.trans (Ext.alloc _ _)))⟩
          | true =>
            have HT := Lib.hid (HS.out.take (hxr.trans (Ext.alloc w6 (.cells #[.slice A6 D6.length c6, .slice B6 L6.length d6] 26))) (HO6.out.keep (KeepB.of_ext (Ext.alloc _ _))))
            obtain ⟨-, ⟨Aq, cq, Bq, dq, hbq, -⟩, -⟩ := (HS.out.ext hxr)
            obtain ⟨p0, p1⟩ := two_cells hbq
            have p2 := frozen_cells hbq 0
            obtain ⟨t1, t2, t3, t4, t5, t6, -⟩ := keepB_set2 (b := 0) ((Ext.alloc w6 (.cells #[.slice A6 D6.length c6, .slice B6 L6.length d6] 26)).block (heap_lt hbq) |>.trans hbq) (.slice A6 D6.length c6) (.slice B6 L6.length d6)
            clear hbq
            have wm : IntKind.i64.wrap (m + 1) = m + 1 := IntWalk.i64_in _ ⟨by omega, by omega⟩
            go_wp2
            go_roundg g1
            case measure => omega
            case rel => exact ⟨i + 1, D6, L6, m + 1, by omega, by go_num, rfl, by omega, Lib.hid ⟨HDN.out, HST2.out⟩, HT⟩
        · have hin' : ¬ (i : Int) < (ds.length : Nat) := by omega
          obtain rfl : gk = 0 := by omega
          have HE := Lib.hid (show (D', L', m) = runV D L ds from HI.out.2)
          obtain ⟨p0, p1⟩ := two_cells hb5
          obtain ⟨t1, t2, t3, t4, t5, t6, -⟩ := keepB_set2 (b := 0) hb6 (.slice A5 D'.length c5) (.slice B5 L'.length d5)
          have HF := Lib.hid (And.intro (hO5.keep (keepB_set2 hb6 (.slice A5 D'.length c5) (.slice B5 L'.length d5)).2.2.2.2.2.2) ((hxw.setCell' (p := ⟨w.heap.size + 1, 0, none⟩) (by show w.heap.size ≤ w.heap.size + 1; omega) (.slice A5 D'.length c5)).setCell' (p := ⟨w.heap.size + 1, 1, none⟩) (by show w.heap.size ≤ w.heap.size + 1; omega) (.slice B5 L'.length d5)))
          clear hb5 hO5 hb6 HI HS HRX hxw
          go_wp2
          refine bodyPost_ret (v := .tuple #[.agg #[.slice A5 D'.length c5, .slice B5 L'.length d5], .int .i64 m]) (by simp [results, Tryz.results34, go_sem, t5, t6]) rfl ?_
          rw [← HE.out]
          exact ⟨_, rfl, HF.out.1, HF.out.2⟩
    · have HV : Hid (runV D L ds = ([], [], 0)) := Lib.hid (by unfold runV; rw [if_neg (fun e => hl e.2)])
      have hl' : (40 : Int) < (ds.length : Nat) := by omega
      rw [HV.out]
      clear hd
      go_enter Tryz.func34, Tryz.ntmps34
      go_wp2_with fail
      refine (HDK.out _ HXT.out).mono ?_
      rintro e w1 ⟨rfl, hx1⟩
      obtain ⟨b0, b1, hx, -⟩ := HB0.out w1 hx1
      obtain ⟨t1, t2, t3, t4, t5, t6, -⟩ := keepB_set2 (b := 0) b1 (.slice none 0 0) (.slice none 0 0)
      go_wp2
      refine bodyPost_ret (v := .tuple #[.agg #[.slice none 0 0, .slice none 0 0], .int .i64 0]) (by simp [results, Tryz.results34, go_sem, t5, t6]) rfl ?_
      exact ⟨_, rfl, zero_desk' _ _, (hx.setCell' (p := ⟨w.heap.size + 1, 0, none⟩) (by show w.heap.size ≤ w.heap.size + 1; omega) _).setCell' (p := ⟨w.heap.size + 1, 1, none⟩) (by show w.heap.size ≤ w.heap.size + 1; omega) _⟩
end Go.Proofs.YtcejdgnfmcgopaaGreatDoor
