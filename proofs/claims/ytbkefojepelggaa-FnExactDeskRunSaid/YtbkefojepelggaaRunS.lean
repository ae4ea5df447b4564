/- What is proved: spec.DeskRun. Conditions: those of each contract. -/
import Derived.Test.YtbkefojepelggaaRun
import Derived.Test.YtbkefojepelggaaDsk
import Derived.Deep.DeepCutAuto
import Derived.Deep.RegionLaw
import Derived.Deep.CutBlock
namespace Go.Proofs.Ytbkefojepelggaa
open Go.RowKit
/-- kept wherever the blocks from b on stay, but for m -/
def FromM (b m : Nat) (w : World) (P : World → Prop) : Prop := ∀ W : World, (∀ k, b ≤ k → k < w.heap.size → k ≠ m → W.heap[k]? = w.heap[k]?) → P W
theorem FromM.ext {b m : Nat} {w w' : World} {P : World → Prop} (h : FromM b m w P) (k : Ext w w') : FromM b m w' P := fun W hW => h W fun q h1 h2 h3 => (hW q h1 (by have := k.size; omega) h3).trans (k.block h2)
theorem FromM.set {b m j : Nat} {w : World} {P : World → Prop} (h : FromM b m w P) (v : Value) : FromM b m (w.setCell ⟨m, j, none⟩ v) P := fun W hW => h W fun q h1 h2 h3 => (hW q h1 (by simpa [World.setCell] using h2) h3).trans (Below.heap_setCell _ _ _ _ (by show q ≠ m; exact h3))
theorem FromM.set' {b m p j : Nat} {w : World} {P : World → Prop} (h : FromM b m w P) (hp : p < b) (v : Value) : FromM b m (w.setCell ⟨p, j, none⟩ v) P := fun W hW => h W fun q h1 h2 h3 => (hW q h1 (by simpa [World.setCell] using h2) h3).trans (Below.heap_setCell _ _ _ _ (by show q ≠ p; omega))
theorem FromM.now {b m : Nat} {w : World} {P : World → Prop} (h : FromM b m w P) : P w := h w fun _ _ _ _ => rfl
/-- the desk under way in block m6 -/
def SRun (w : World) (m6 : Nat) (D : List (List Int)) (L : List (List (List Int))) (W : World) : Prop :=
  (Ext w W ∧ w.heap.size + 2 ≤ m6) ∧ (∃ A c B d, W.heap[m6]? = some (.cells #[.slice A D.length c, .slice B L.length d] 26 (0, 0)) ∧ FromM (w.heap.size + 2) m6 W (fun W => Mat W A c D ∧ MatS W B d L)) ∧ ∃ x y, W.heap[w.heap.size + 1]? = some (.cells #[x, y] 26 (0, 0))
/-- and one more in block m9 -/
def TRun (w : World) (m6 m9 : Nat) (D : List (List Int)) (L : List (List (List Int))) (D' : List (List Int)) (L' : List (List (List Int))) (W : World) : Prop :=
  SRun w m6 D L W ∧ ∃ A c B d, W.heap[m9]? = some (.cells #[.slice A D'.length c, .slice B L'.length d] 26 (0, 0)) ∧ FromM (w.heap.size + 2) m6 W (fun W => Mat W A c D' ∧ MatS W B d L')
section
variable {w W W' : World} {m6 m9 : Nat} {D D' : List (List Int)} {L L' : List (List (List Int))}
theorem SRun.ext (h : SRun w m6 D L W) (k : Ext W W') : SRun w m6 D L W' := by
  obtain ⟨⟨h1, h1'⟩, ⟨A, c, B, d, h2, h3⟩, x, y, h4⟩ := h
  exact ⟨⟨h1.trans k, h1'⟩, ⟨A, c, B, d, (k.block (heap_lt h2)).trans h2, h3.ext k⟩, x, y, (k.block (heap_lt h4)).trans h4⟩
theorem TRun.take (h : TRun w m6 m9 D L D' L' W) :
    ∃ A c B d, W.heap[m9]? = some (.cells #[.slice A D'.length c, .slice B L'.length d] 26 (0, 0)) ∧ SRun w m6 D' L' ((W.setCell ⟨m6, 0, none⟩ (.slice A D'.length c)).setCell ⟨m6, 1, none⟩ (.slice B L'.length d)) := by
  obtain ⟨⟨⟨h1, h1'⟩, ⟨A0, c0, B0, d0, h2, h3⟩, x, y, h4⟩, A, c, B, d, h5, h6⟩ := h
  refine ⟨A, c, B, d, h5, ⟨(h1.setCell' (p := ⟨m6, 0, none⟩) (by show w.heap.size ≤ m6; omega) _).setCell' (p := ⟨m6, 1, none⟩) (by show w.heap.size ≤ m6; omega) _, h1'⟩, ⟨A, c, B, d, set_1 (set_0 h2), (h6.set _).set _⟩, x, y, set_far (set_far h4 ?_) ?_⟩
  · show w.heap.size + 1 ≠ m6; omega
  · show w.heap.size + 1 ≠ m6; omega
theorem SRun.start {a b x y : Value} (k : Ext ((w.alloc (.cells #[a, b] 26)).alloc (.cells #[x, y] 26)) W) {A : Option Addr} {c : Nat} {B : Option Addr} {d : Nat} {bs : Nat} (hb : w.heap.size + 2 ≤ bs) (hO : OwnDk bs W (.agg #[.slice A D.length c, .slice B L.length d]) D L) :
    SRun w W.heap.size D L (W.alloc (.cells #[.slice A D.length c, .slice B L.length d] 26)) := by
  obtain ⟨b0, b1, hx, hs⟩ := two_blocks k
  have hx2 : Ext W (W.alloc (.cells #[.slice A D.length c, .slice B L.length d] 26)) := Ext.alloc _ _
  refine ⟨⟨hx.trans hx2, hs⟩, ⟨A, c, B, d, heap_alloc_new W _, fun W' hW => ?_⟩, x, y, (hx2.block (heap_lt b1)).trans b1⟩
  have hK : KeepB bs W W' := fun g cs t hg hh _ => (hW g (by omega) (by have := heap_lt hh; have := hx2.size; omega) (by have := heap_lt hh; omega)).trans (hx2.block (heap_lt hh))
  obtain ⟨Aq, cq, Bq, dq, eq, m1q, m2q, -, -⟩ := (hO.keep hK).split
  simp only [Value.agg.injEq, Array.mk.injEq, List.cons.injEq, Value.slice.injEq] at eq
  obtain ⟨⟨rfl, -, rfl⟩, ⟨rfl, -, rfl⟩, -⟩ := eq
  exact ⟨m1q, m2q⟩
/-- what DeskDo hands back, stored in a new block -/
theorem TRun.of {wc w7 w8 wf : World} (h : SRun w m6 D L wc) (hx7 : Ext wc w7) (hx8 : Ext w7 w8) {A : Option Addr} {c : Nat} {B : Option Addr} {d : Nat} (hF : From w7.heap.size w8 (fun W => Mat W A c D' ∧ MatS W B d L'))
    (hm : ∃ wz, Ext w8 wz ∧ wz.heap[m9]? = some (.cells #[.slice none 0 0, .slice none 0 0] 26 (0, 0)) ∧ wf = (wz.setCell ⟨m9, 0, none⟩ (.slice A D'.length c)).setCell ⟨m9, 1, none⟩ (.slice B L'.length d)) (hm9 : wc.heap.size ≤ m9 ∧ (m9 < w7.heap.size ∨ w8.heap.size ≤ m9)) : TRun w m6 m9 D L D' L' wf := by
  obtain ⟨wz, hz1, hz2, rfl⟩ := hm
  have s7 := hx7.size
  have s8 := hx8.size
  have sz := hz1.size
  have hxz : Ext wc wz := (hx7.trans hx8).trans hz1
  have hxf : Ext wc ((wz.setCell ⟨m9, 0, none⟩ (.slice A D'.length c)).setCell ⟨m9, 1, none⟩ (.slice B L'.length d)) := (hxz.setCell' (p := ⟨m9, 0, none⟩) hm9.1 _).setCell' (p := ⟨m9, 1, none⟩) hm9.1 _
  have h6 : m6 < wc.heap.size := by
    obtain ⟨-, ⟨_, _, _, _, h2, -⟩, -⟩ := h
    exact heap_lt h2
  have h62 := h.1.2
  refine ⟨h.ext hxf, A, c, B, d, set_1 (set_0 hz2), fun W' hW => hF W' fun k k1 k2 => ?_⟩
  have hne : k ≠ m9 := by omega
  refine (hW k (by omega) (by simp [World.setCell]; omega) (by omega)).trans (((Below.heap_setCell _ _ _ _ (by show k ≠ m9; exact hne)).trans (Below.heap_setCell _ _ _ _ (by show k ≠ m9; exact hne))).trans (hz1.block k2))
end
theorem v_of {D : List (List Int)} {L : List (List (List Int))} {kind : Int} {xs : List Int} (h : deskB D L = true) : vD D L kind xs = doD D L kind xs ∧ vL D L kind xs = doL D L kind xs ∧ vB D L kind xs = doB D L kind xs := by
  unfold vD vL vB
  rw [if_pos h, if_pos h, h, Bool.true_and]
  exact ⟨rfl, rfl, rfl⟩
/-- what DeskRun hands back -/
def RunT (w : World) (D : List (List Int)) (L : List (List (List Int))) (n : Int) (e : Ending) (w' : World) : Prop := ∃ A c B d, e = .returned (.tuple #[.agg #[.slice A D.length c, .slice B L.length d], .int .i64 n]) ∧ Mat w' A c D ∧ MatS w' B d L ∧ Ext w w'
set_option maxRecDepth 100000 in
set_option maxHeartbeats 8000000 in
theorem sDeskRun_any (A B : Option Addr) (c d : Nat) (D : List (List Int)) (L : List (List (List Int))) (X : Option Addr) (cx : Nat) (ds : List (Int × List Int)) (w : World) (h1 : Mat w A c D) (h2 : MatS w B d L) (hx : DeedsM w X cx ds) :
    Calls Try.prog 19 #[.agg #[.slice A D.length c, .slice B L.length d], .slice X ds.length cx] w (RunT w (runV D L ds).1 (runV D L ds).2.1 (runV D L ds).2.2) := by
  have H1 := Lib.hid h1
  have H2 := Lib.hid h2
  have HX := Lib.hid hx
  clear h1 h2 hx
  have HDK := Lib.hid (fun W (q : Ext w W) => sDeskOk_any A B c d D L W (H1.out.ext q) (H2.out.ext q))
  have hb0 := fun W (q : Ext ((w.alloc (.cells #[.slice A D.length c, .slice B L.length d] 26)).alloc (.cells #[.slice none 0 0, .slice none 0 0] 26)) W) => two_blocks q
  have HB0 := Lib.hid hb0
  have HXT := Lib.hid (show Ext w ((w.alloc (.cells #[.slice A D.length c, .slice B L.length d] 26)).alloc (.cells #[.slice none 0 0, .slice none 0 0] 26)) from (Ext.alloc _ _).alloc' _)
  clear hb0
  cases hd : deskB D L with
  | false =>
    have HV : Hid (runV D L ds = ([], [], 0)) := Lib.hid (by unfold runV; rw [if_neg (by rw [hd]; simp)])
    rw [hd] at HDK
    rw [HV.out]
    clear hd
    go_enter Try.func19, Try.ntmps19
    go_wp2_with fail
    refine (HDK.out _ HXT.out).mono ?_
    rintro e w1 ⟨rfl, hx1⟩
    obtain ⟨b0, b1, hx, -⟩ := HB0.out w1 hx1
    obtain ⟨t1, t2, t3, t4, t5, t6, -⟩ := keepB_set2 (b := 0) b1 (.slice none 0 0) (.slice none 0 0)
    go_wp2
    refine bodyPost_ret (v := .tuple #[.agg #[.slice none 0 0, .slice none 0 0], .int .i64 0]) (by simp [results, Try.results19, go_sem, t5, t6]) rfl ?_
    obtain ⟨Aq, cq, Bq, dq, eq, m1q, m2q⟩ := (zero_desk' w.heap.size ((w1.setCell ⟨w.heap.size + 1, 0, none⟩ (.slice none 0 0)).setCell ⟨w.heap.size + 1, 1, none⟩ (.slice none 0 0))).desk
    simp only [Value.agg.injEq, Array.mk.injEq, List.cons.injEq, Value.slice.injEq] at eq
    obtain ⟨⟨rfl, -, rfl⟩, ⟨rfl, -, rfl⟩, -⟩ := eq
    exact ⟨none, 0, none, 0, rfl, m1q, m2q, (hx.setCell' (p := ⟨w.heap.size + 1, 0, none⟩) (by show w.heap.size ≤ w.heap.size + 1; omega) _).setCell' (p := ⟨w.heap.size + 1, 1, none⟩) (by show w.heap.size ≤ w.heap.size + 1; omega) _⟩
  | true =>
    rw [hd] at HDK
    by_cases hl : ds.length ≤ 40
    · have HV : Hid (runV D L ds = runR ds ds.length 0 D L 0) := Lib.hid (by unfold runV; rw [if_pos ⟨hd, hl⟩])
      have hl' : ¬ (40 : Int) < (ds.length : Nat) := by omega
      have HDB := Lib.hid hd
      clear hd
      go_enter Try.func19, Try.ntmps19
      go_wp2_with fail
      refine (HDK.out _ HXT.out).mono ?_
      rintro e w1 ⟨rfl, hx1⟩
      obtain ⟨b0, b1, hx, hsz⟩ := HB0.out w1 hx1
      obtain ⟨t0, t1⟩ := two_cells b0
      go_wp2_with fail
      refine (l11Copy_any A B c d D L _ (H1.out.ext hx) (H2.out.ext hx) (deskB_sm HDB.out)).mono ?_
      rintro e w2 ⟨v2, rfl, hO2, hx2⟩
      obtain ⟨A2, c2, B2, d2, rfl, -, -, hc2, hd2⟩ := hO2.split
      have HS2 := Lib.hid (SRun.start (hx1.trans hx2) hsz hO2)
      obtain ⟨m6, hm6⟩ : ∃ m, w2.heap.size = m := ⟨_, rfl⟩
      rw [hm6] at HS2
      obtain ⟨bX, oX, RX, rX, hAX, hkX, hxX, hiX⟩ := HX.out.parts
      have HRX := Lib.hid (fun W (q : Ext w W) i (hi : i < ds.length) => And.intro (q.cell (hkX i hi)) (And.intro (q.cell (hxX i hi)) ((hiX i hi).ext q)))
      clear hkX hxX hiX hx1 hx2 hx HDK b0 b1 t0 t1 hO2
      go_wp2_with fail
      go_loopg [8, 7] ds.length (fun g s8 s7 wr => ∃ (i : Nat) (D' : List (List Int)) (L' : List (List (List Int))) (m : Int), i + g = ds.length ∧ s8 = .int .i64 i ∧ s7 = .int .i64 m ∧ (0 ≤ m ∧ m ≤ i) ∧ Hid (deskB D' L' = true ∧ runR ds g i D' L' m = runV D L ds) ∧ Hid (SRun w m6 D' L' wr))
      case atStart => exact ⟨0, D, L, 0, by omega, rfl, rfl, by omega, Lib.hid ⟨HDB.out, HV.out.symm⟩, HS2⟩
      case round =>
        clear HS2
        obtain ⟨i, D', L', m, hi, rfl, rfl, ⟨m0, m1⟩, HI, HS⟩ := hrel
        obtain ⟨⟨hxw, hm62⟩, ⟨A5, c5, B5, d5, hb5, hF5⟩, x5, y5, hb6⟩ := HS.out
        by_cases hin : i < ds.length
        · obtain ⟨g1, rfl⟩ : ∃ g', gk = g' + 1 := ⟨gk - 1, by omega⟩
          have hin' : (i : Int) < (ds.length : Nat) := by omega
          obtain rfl := hAX (by omega)
          obtain ⟨r1, r2, r3⟩ := HRX.out wr hxw i hin
          have HR1 := Lib.hid (fun W (q : Ext wr W) => q.cell r1)
          have HR2 := Lib.hid (fun W (q : Ext wr W) => q.cell r2)
          have HST := Lib.hid (show (if doB D' L' (dk ds i) (dx ds i) = true then runR ds g1 (i + 1) (doD D' L' (dk ds i) (dx ds i)) (doL D' L' (dk ds i) (dx ds i)) (m + 1) else runR ds g1 (i + 1) D' L' m) = runV D L ds from HI.out.2)
          obtain ⟨kd, hkd⟩ : ∃ k, dk ds i = k := ⟨_, rfl⟩
          obtain ⟨xd, hxd⟩ : ∃ k, dx ds i = k := ⟨_, rfl⟩
          rw [hkd] at r1 HR1 HST
          rw [hxd] at r2 r3 HR2 HST
          have HDR := Lib.hid (HI.out.1)
          have HDN := Lib.hid (do_desk (kind := kd) (xs := xd) HDR.out)
          have HC0 := fun W (q : Ext wr W) => sDeskDo_any A5 B5 c5 d5 D' L' kd (RX i) (rX i) xd W ((hF5.now.1).ext q) ((hF5.now.2).ext q) (r3.ext q)
          obtain ⟨e1, e2, e3⟩ := v_of (kind := kd) (xs := xd) HDR.out
          rw [e1, e2, e3] at HC0
          clear e1 e2 e3
          obtain ⟨bo, hbo⟩ : ∃ b, doB D' L' kd xd = b := ⟨_, rfl⟩
          obtain ⟨D6, hD6⟩ : ∃ x, doD D' L' kd xd = x := ⟨_, rfl⟩
          obtain ⟨L6, hL6⟩ : ∃ x, doL D' L' kd xd = x := ⟨_, rfl⟩
          rw [hbo, hD6, hL6] at HST HC0
          rw [hD6, hL6] at HDN
          have HC := Lib.hid HC0
          obtain ⟨p0, p1⟩ := two_cells hb5
          have p0' : ∀ o, (wr.alloc o).cell? ⟨m6, 0, none⟩ = some _ := fun o => ((Ext.refl wr).alloc' o).cell p0
          have p1' : ∀ o, (wr.alloc o).cell? ⟨m6, 1, none⟩ = some _ := fun o => ((Ext.refl wr).alloc' o).cell p1
          have r1' : ∀ o, (wr.alloc o).cell? ⟨bX, oX + i * 2, none⟩ = some _ := fun o => ((Ext.refl wr).alloc' o).cell r1
          have r2' : ∀ o, (wr.alloc o).cell? ⟨bX, oX + i * 2 + 1, none⟩ = some _ := fun o => ((Ext.refl wr).alloc' o).cell r2
          clear HC0 hbo hD6 hL6 hkd hxd HI r3 hF5 hb5 hb6 HR1 HR2
          go_upto_region 8 with fail
          go_cut [9, 10] (fun s9 s10 wx => ∃ m9, s9 = .pointer (some ⟨m9, 0, none⟩) ∧ s10 = .bool bo ∧ Hid (TRun w m6 m9 D' L' D6 L6 wx))
          case first =>
            go_wp2_with fail
            go_region_law (go_simp; go_at_call 14; (fail_if_success (have q := hX8)); refine (HC.out _ (by repeat (first | exact Ext.refl _ | apply Ext.drew' | apply Ext.alloc'))).mono ?_; rintro e w8 ⟨A8, c8, B8, d8, rfl, hF8, hX8, -⟩; obtain ⟨z1, z2, z3, z4, -⟩ := keepB_set2 (b := 0) (heap_alloc_new w8 (.cells #[.slice none 0 0, .slice none 0 0] 26)) (.slice A8 D6.length c8) (.slice B8 L6.length d8); (try have x8 : w8.heap[wr.heap.size]? = some (.cells #[.slice none 0 0, .slice none 0 0] 26 (0, 0)) := (hX8.block (by simp)).trans (alloc_at (by simp))); (try (have y8 := keepB_set2 (b := 0) x8 (.slice A8 D6.length c8) (.slice B8 L6.length d8); obtain ⟨t1, t2, t3, t4, -⟩ := y8)))
            all_goals
              go_wp2_with fail
              go_meet
              case rel =>
                first
                  | exact ⟨_, rfl, rfl, Lib.hid (TRun.of (w7 := wr.drew.alloc _) (w8 := w8) HS.out (by repeat (first | exact Ext.refl _ | apply Ext.drew' | apply Ext.alloc')) hX8 hF8 ⟨w8, Ext.refl _, x8, rfl⟩ ⟨Nat.le_refl _, .inl (by simp)⟩)⟩
                  | exact ⟨_, rfl, rfl, Lib.hid (TRun.of (w7 := wr.drew) (w8 := w8) HS.out (by repeat (first | exact Ext.refl _ | apply Ext.drew' | apply Ext.alloc')) hX8 hF8 ⟨_, Ext.alloc _ _, heap_alloc_new _ _, alloc_set2 _ _ _ _ _ _⟩ ⟨hX8.size, .inr (Nat.le_refl _)⟩)⟩
          case rest =>
            obtain ⟨m9, rfl, rfl, HT⟩ := hcut
            clear p0 p1 p0' p1' r1' r2' HS r1 r2 HC hxw
            cases bo with
            | false =>
              have HST2 := Lib.hid (HST.out)
              clear HST
              go_wp2
              go_roundg g1
              case measure => omega
              case rel => exact ⟨i + 1, D', L', m, by omega, by go_num, rfl, by omega, Lib.hid ⟨HDR.out, HST2.out⟩, Lib.hid HT.out.1⟩
            | true =>
              have HST2 := Lib.hid (HST.out)
              clear HST
              have wm : IntKind.i64.wrap (m + 1) = m + 1 := IntWalk.i64_in _ ⟨by omega, by omega⟩
              obtain ⟨A7, c7, B7, d7, h7, hS7⟩ := HT.out.take
              have HS7 := Lib.hid hS7
              obtain ⟨-, ⟨A0, c0, B0, d0, hb0, -⟩, -⟩ := HT.out.1
              obtain ⟨s0, s1⟩ := two_cells h7
              obtain ⟨t1, t2, t3, t4, -⟩ := keepB_set2 (b := 0) hb0 (.slice A7 D6.length c7) (.slice B7 L6.length d7)
              clear hS7 hb0 h7
              go_wp2
              go_roundg g1
              case measure => omega
              case rel => exact ⟨i + 1, D6, L6, m + 1, by omega, by go_num, rfl, by omega, Lib.hid ⟨HDN.out, HST2.out⟩, HS7⟩
        · have hin' : ¬ (i : Int) < (ds.length : Nat) := by omega
          obtain rfl : gk = 0 := by omega
          have HE := Lib.hid (show (D', L', m) = runV D L ds from HI.out.2)
          obtain ⟨p0, p1⟩ := two_cells hb5
          obtain ⟨t1, t2, t3, t4, t5, t6, -⟩ := keepB_set2 (b := 0) hb6 (.slice A5 D'.length c5) (.slice B5 L'.length d5)
          have HF := Lib.hid (And.intro (((hF5.set' (p := w.heap.size + 1) (j := 0) (by omega) (.slice A5 D'.length c5)).set' (p := w.heap.size + 1) (j := 1) (by omega) (.slice B5 L'.length d5)).now) ((hxw.setCell' (p := ⟨w.heap.size + 1, 0, none⟩) (by show w.heap.size ≤ w.heap.size + 1; omega) (.slice A5 D'.length c5)).setCell' (p := ⟨w.heap.size + 1, 1, none⟩) (by show w.heap.size ≤ w.heap.size + 1; omega) (.slice B5 L'.length d5)))
          clear hb5 hF5 hb6 HI HS HRX hxw
          go_wp2
          refine bodyPost_ret (v := .tuple #[.agg #[.slice A5 D'.length c5, .slice B5 L'.length d5], .int .i64 m]) (by simp [results, Try.results19, go_sem, t5, t6]) rfl ?_
          rw [← HE.out]
          exact ⟨_, _, _, _, rfl, HF.out.1.1, HF.out.1.2, HF.out.2⟩
    · have HV : Hid (runV D L ds = ([], [], 0)) := Lib.hid (by unfold runV; rw [if_neg (fun e => hl e.2)])
      have hl' : (40 : Int) < (ds.length : Nat) := by omega
      rw [HV.out]
      clear hd
      go_enter Try.func19, Try.ntmps19
      go_wp2_with fail
      refine (HDK.out _ HXT.out).mono ?_
      rintro e w1 ⟨rfl, hx1⟩
      obtain ⟨b0, b1, hx, -⟩ := HB0.out w1 hx1
      obtain ⟨t1, t2, t3, t4, t5, t6, -⟩ := keepB_set2 (b := 0) b1 (.slice none 0 0) (.slice none 0 0)
      go_wp2
      refine bodyPost_ret (v := .tuple #[.agg #[.slice none 0 0, .slice none 0 0], .int .i64 0]) (by simp [results, Try.results19, go_sem, t5, t6]) rfl ?_
      obtain ⟨Aq, cq, Bq, dq, eq, m1q, m2q⟩ := (zero_desk' w.heap.size ((w1.setCell ⟨w.heap.size + 1, 0, none⟩ (.slice none 0 0)).setCell ⟨w.heap.size + 1, 1, none⟩ (.slice none 0 0))).desk
      simp only [Value.agg.injEq, Array.mk.injEq, List.cons.injEq, Value.slice.injEq] at eq
      obtain ⟨⟨rfl, -, rfl⟩, ⟨rfl, -, rfl⟩, -⟩ := eq
      exact ⟨none, 0, none, 0, rfl, m1q, m2q, (hx.setCell' (p := ⟨w.heap.size + 1, 0, none⟩) (by show w.heap.size ≤ w.heap.size + 1; omega) _).setCell' (p := ⟨w.heap.size + 1, 1, none⟩) (by show w.heap.size ≤ w.heap.size + 1; omega) _⟩
end Go.Proofs.Ytbkefojepelggaa
