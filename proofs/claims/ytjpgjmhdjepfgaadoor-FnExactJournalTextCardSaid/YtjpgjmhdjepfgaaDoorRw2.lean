/- What is proved: copies, sizes, marks of lists of deeds, all leaves apart (szDeedS, toDeedS, eqDeedS, markDeedS). Conditions: those of each contract. -/
import Derived.Test.YtjpgjmhdjepfgaaDoorDe
import Derived.Test.YtjpgjmhdjepfgaaDoorDso
import Derived.Deep.RegionLaw
namespace Go.Proofs.YtjpgjmhdjepfgaaDoor
open Go.RowKit
/-- a row of n elements of two cells -/
def Row2 (W : World) (g : Nat) (T : TypeId) (n : Nat) (f0 f1 : Nat → Value) : Prop := ∃ cs, W.heap[g]? = some (.cells cs T (0, 0)) ∧ ∀ j, j < n → cs[j * 2]? = some (f0 j) ∧ cs[j * 2 + 1]? = some (f1 j)
theorem Row2.lt {W : World} {g : Nat} {T : TypeId} {n : Nat} {f0 f1 : Nat → Value} (h : Row2 W g T n f0 f1) : g < W.heap.size := by
  obtain ⟨cs, hb, -⟩ := h
  exact heap_lt hb
theorem Row2.cell {W : World} {g : Nat} {T : TypeId} {n : Nat} {f0 f1 : Nat → Value} (h : Row2 W g T n f0 f1) {j : Nat} (hj : j < n) : W.cell? ⟨g, j * 2, none⟩ = some (f0 j) ∧ W.cell? ⟨g, j * 2 + 1, none⟩ = some (f1 j) := by
  obtain ⟨cs, hb, hc⟩ := h
  exact ⟨(cell_cells hb _).trans (hc j hj).1, (cell_cells hb _).trans (hc j hj).2⟩
theorem Row2.frozen {W : World} {g : Nat} {T : TypeId} {n : Nat} {f0 f1 : Nat → Value} (h : Row2 W g T n f0 f1) (x : Nat) : W.frozen? ⟨g, x, none⟩ = false := by
  obtain ⟨cs, hb, -⟩ := h
  exact frozen_cells hb x
theorem Row2.of_block {W W' : World} {g : Nat} {T : TypeId} {n : Nat} {f0 f1 : Nat → Value} (h : Row2 W g T n f0 f1) (k : W'.heap[g]? = W.heap[g]?) : Row2 W' g T n f0 f1 := by
  obtain ⟨cs, hb, hc⟩ := h
  exact ⟨cs, k.trans hb, hc⟩
theorem Row2.congr {W : World} {g : Nat} {T : TypeId} {n : Nat} {f0 f1 h0 h1 : Nat → Value} (h : Row2 W g T n f0 f1) (k : ∀ j, j < n → f0 j = h0 j ∧ f1 j = h1 j) : Row2 W g T n h0 h1 := by
  obtain ⟨cs, hb, hc⟩ := h
  exact ⟨cs, hb, fun j hj => by rw [← (k j hj).1, ← (k j hj).2]; exact hc j hj⟩
theorem Row2.set0 {W : World} {g : Nat} {T : TypeId} {n : Nat} {f0 f1 : Nat → Value} (h : Row2 W g T n f0 f1) {i : Nat} (hi : i < n) (v : Value) : Row2 (W.setCell ⟨g, i * 2, none⟩ v) g T n (fun j => if j = i then v else f0 j) f1 := by
  obtain ⟨cs, hb, hc⟩ := h
  refine ⟨cs.setIfInBounds (i * 2) v, by simp [World.setCell, Array.getElem?_modify, hb], fun j hj => ?_⟩
  have hs : i * 2 < cs.size := (Array.getElem?_eq_some_iff.1 (hc i hi).1).1
  rw [Array.getElem?_setIfInBounds, Array.getElem?_setIfInBounds, if_neg (show ¬ i * 2 = j * 2 + 1 by omega), (hc j hj).2]
  by_cases e : j = i
  · subst e; simp [hs]
  · rw [if_neg (show ¬ i * 2 = j * 2 by omega), (hc j hj).1]; exact ⟨by simp [e], rfl⟩
theorem Row2.set1 {W : World} {g : Nat} {T : TypeId} {n : Nat} {f0 f1 : Nat → Value} (h : Row2 W g T n f0 f1) {i : Nat} (hi : i < n) (v : Value) : Row2 (W.setCell ⟨g, i * 2 + 1, none⟩ v) g T n f0 (fun j => if j = i then v else f1 j) := by
  obtain ⟨cs, hb, hc⟩ := h
  refine ⟨cs.setIfInBounds (i * 2 + 1) v, by simp [World.setCell, Array.getElem?_modify, hb], fun j hj => ?_⟩
  have hs : i * 2 + 1 < cs.size := (Array.getElem?_eq_some_iff.1 (hc i hi).2).1
  rw [Array.getElem?_setIfInBounds, Array.getElem?_setIfInBounds, if_neg (show ¬ i * 2 + 1 = j * 2 by omega), (hc j hj).1]
  by_cases e : j = i
  · subst e; simp [hs]
  · rw [if_neg (show ¬ i * 2 + 1 = j * 2 + 1 by omega), (hc j hj).2]; exact ⟨rfl, by simp [e]⟩
theorem Row2.made (W : World) (n : Nat) : Row2 (W.alloc (.cells (madeCells #[.int .i64 0, .slice none 0 0] (n * 2)) 27)) W.heap.size 27 n (fun _ => .int .i64 0) (fun _ => .slice none 0 0) := by
  refine ⟨_, heap_alloc_new W _, fun j hj => ?_⟩
  have m0 : (j * 2) % 2 = 0 := by omega
  have m1 : (j * 2 + 1) % 2 = 1 := by omega
  have l0 : j * 2 < n * 2 := by omega
  have l1 : j * 2 + 1 < n * 2 := by omega
  exact ⟨by simp [madeCells, l0, m0], by simp [madeCells, l1, m1]⟩
theorem make2 (n : Nat) (hn : n ≤ 1048576) (w : World) : (Instr.makeSlice 34 (.int .i64 (n : Int)) (.int .i64 (n : Int))).run Tryd.prog w = .ok (.slice (some ⟨w.heap.size, 0, none⟩) n n) (w.alloc (.cells (madeCells #[.int .i64 0, .slice none 0 0] (n * 2)) 27)) := by
  obtain ⟨i0, hi, hz, hsz, hb⟩ := info_parts infoDeed
  have := run_make (P := Tryd.prog) w 34 27 i0 (.agg #[.int .i64 0, .slice none 0 0]) Tryd.underlying34 hi hz .i64 .i64 (n : Int) (n : Int) (by omega) (Int.le_refl _) (by rw [hb]; omega) (by omega)
  rw [hsz] at this
  rw [this]
  rfl
/-- a list of deeds, its leaves V -/
def DsV (W : World) (A : Option Addr) (c : Nat) (ds : List (Int × List Int)) (V : Nat → Value) : Prop :=
  ds.length ≤ c ∧ c ≤ maxLen ∧ (0 < ds.length → ∃ g, A = some ⟨g, 0, none⟩ ∧ Row2 W g 27 ds.length (fun i => .int .i64 (dk ds i)) V) ∧ (∀ i, i < ds.length → Leaf W (V i) (dx ds i)) ∧ Dis ds.length V
theorem OwnDs.v {b : Nat} {w : World} {v : Value} {ds : List (Int × List Int)} {V : Nat → Value} (h : OwnDs b w v ds V) : ∃ A c, v = .slice A ds.length c ∧ DsV w A c ds V := by
  obtain ⟨h1, h2, h3, h4⟩ := h
  rcases h1.2 with ⟨rfl, h0⟩ | ⟨g, cap, cur, rfl, hb, hg, hc, hm, hs, ht⟩
  · exact ⟨none, 0, by rw [h0], by omega, Nat.zero_le _, fun q => absurd q (by omega), fun i hi => absurd hi (by omega), h4⟩
  · refine ⟨_, cap, rfl, hc, hm, fun _ => ⟨g, rfl, cur, hg, fun i hi => ?_⟩, h2, h4⟩
    obtain ⟨f1, f2⟩ := flatR_get ds V hi
    rw [← ht, List.getElem?_take, if_pos (by omega)] at f1 f2
    rw [← Array.getElem?_toList, ← Array.getElem?_toList]
    exact ⟨f1, f2⟩
theorem DsV.deeds {w : World} {A : Option Addr} {c : Nat} {ds : List (Int × List Int)} {V : Nat → Value} (h : DsV w A c ds V) : DeedsM w A c ds := by
  obtain ⟨h1, h2, h3, h4, -⟩ := h
  by_cases h0 : 0 < ds.length
  · obtain ⟨g, e, hr⟩ := h3 h0
    refine ⟨h1, h2, g, 0, fun _ => e, fun i hi => ?_⟩
    obtain ⟨X, cx, hv, hI⟩ := (h4 i hi).ints
    obtain ⟨c1, c2⟩ := hr.cell hi
    rw [Nat.zero_add]
    exact ⟨X, cx, c1, by rw [c2, hv], hI⟩
  · exact ⟨h1, h2, 0, 0, fun q => absurd q h0, fun i hi => absurd hi (by omega)⟩
theorem DsV.ext {w w' : World} {A : Option Addr} {c : Nat} {ds : List (Int × List Int)} {V : Nat → Value} (h : DsV w A c ds V) (k : Ext w w') : DsV w' A c ds V := by
  obtain ⟨h1, h2, h3, h4, h5⟩ := h
  refine ⟨h1, h2, fun h0 => ?_, fun i hi => (h4 i hi).ext k, h5⟩
  obtain ⟨g, e, hr⟩ := h3 h0
  exact ⟨g, e, hr.of_block (k.block hr.lt)⟩
/-- what a copy of a list of deeds leaves -/
def FreshDs (w : World) (ds : List (Int × List Int)) (e : Ending) (w' : World) : Prop :=
  ∃ A c V, e = .returned (.slice A ds.length c) ∧ DsV w' A c ds V ∧ (∀ i, i < ds.length → ∀ g ∈ lb (V i), w.heap.size ≤ g) ∧ (∀ g o s, A = some ⟨g, o, s⟩ → w.heap.size ≤ g) ∧ Ext w w'
set_option maxHeartbeats 4000000 in
theorem toDeedS_any (A : Option Addr) (c : Nat) (ds : List (Int × List Int)) (w : World) (h : DeedsM w A c ds) (hz : ds.length ≤ 1048576) (hr : ∀ i, i < ds.length → (dx ds i).length ≤ 1048576) :
    Calls Tryd.prog 14 #[.slice A ds.length c] w (FreshDs w ds) := by
  obtain ⟨bX, oX, RX, rX, hA, hk, hx, hi⟩ := h.parts
  have hc2 := h.2.1
  have hc1 := h.1
  unfold maxLen at hc2
  have HRX := Lib.hid (fun W (q : Ext w W) i (hlt : i < ds.length) => And.intro (q.cell (hk i hlt)) (And.intro (q.cell (hx i hlt)) ((hi i hlt).ext q)))
  have HR := Lib.hid hr
  have hmk := make2 ds.length hz
  clear h hk hx hi hr
  go_enter Tryd.func14, Tryd.ntmps14
  go_wp2
  clear hmk
  go_loopg [4] ds.length (fun g s4 wr => ∃ (i : Nat) (V : Nat → Value), i + g = ds.length ∧ s4 = .int .i64 i ∧ Hid (Ext w wr ∧ Row2 wr w.heap.size 27 ds.length (fun j => if j < i then .int .i64 (dk ds j) else .int .i64 0) (fun j => if j < i then V j else .slice none 0 0) ∧
    (∀ j, j < i → Leaf wr (V j) (dx ds j) ∧ ∀ g ∈ lb (V j), w.heap.size ≤ g) ∧ Dis i V))
  case atStart => exact ⟨0, fun _ => .slice none 0 0, by omega, rfl, Lib.hid ⟨Ext.alloc _ _, (Row2.made w _).congr (fun j _ => by simp), fun j hj => absurd hj (by omega), fun i j hi => absurd hi (by omega)⟩⟩
  case round =>
    obtain ⟨i, V, hi, rfl, HW⟩ := hrel
    by_cases hin : i < ds.length
    · obtain ⟨g1, rfl⟩ : ∃ g', gk = g' + 1 := ⟨gk - 1, by omega⟩
      have hin' : (i : Int) < (ds.length : Nat) := by omega
      obtain rfl := hA (by omega)
      obtain ⟨r1, r2, r3⟩ := HRX.out wr HW.out.1 i hin
      obtain ⟨kd, hkd⟩ : ∃ k, dk ds i = k := ⟨_, rfl⟩
      obtain ⟨xd, hxd⟩ : ∃ k, dx ds i = k := ⟨_, rfl⟩
      have hxl := HR.out i hin
      rw [hkd] at r1
      rw [hxd] at r2 r3 hxl
      have HC := Lib.hid (toDeed_any kd (RX i) (rX i) xd wr r3 hxl)
      have HE := Lib.hid (And.intro hkd hxd)
      clear r3 hxl hkd hxd
      go_wp2_with fail
      refine HC.out.mono ?_
      rintro e w5 ⟨v5, rfl, hL5, hl5, hx5⟩
      obtain ⟨A5, c5, rfl, -⟩ := hL5.ints
      have hr5 := HW.out.2.1.of_block (hx5.block HW.out.2.1.lt)
      obtain ⟨c1, -⟩ := hr5.cell hin
      have f1 := hr5.frozen (i * 2)
      have hr6 := hr5.set0 hin (.int .i64 kd)
      obtain ⟨-, c2⟩ := hr6.cell hin
      have f2 := hr6.frozen (i * 2 + 1)
      have hr7 := hr6.set1 hin (.slice A5 xd.length c5)
      rw [if_neg (by omega)] at c1 c2
      have HV := Lib.hid (And.intro hL5 (And.intro hl5 (And.intro hx5 (And.intro hr5 hr7))))
      clear r1 r2 hL5 hl5 hx5 hr5 hr6 hr7 HC
      go_wp2
      go_roundg g1
      case measure => omega
      case rel =>
        obtain ⟨hx, -, hold, hdis⟩ := HW.out
        obtain ⟨hL5, hl5, hx5, hr5, hr7⟩ := HV.out
        obtain ⟨cs5, hb5, -⟩ := hr5
        have hxf : Ext w ((w5.setCell ⟨w.heap.size, i * 2, none⟩ (.int .i64 kd)).setCell ⟨w.heap.size, i * 2 + 1, none⟩ (.slice A5 xd.length c5)) := ((hx.trans hx5).setCell' (Nat.le_refl _) _).setCell' (Nat.le_refl _) _
        have hkeep : ∀ u ys, Leaf w5 u ys → Leaf ((w5.setCell ⟨w.heap.size, i * 2, none⟩ (.int .i64 kd)).setCell ⟨w.heap.size, i * 2 + 1, none⟩ (.slice A5 xd.length c5)) u ys := fun u ys hl => hl.keep fun g hg => by
          have hne : g ≠ w.heap.size := by
            rintro rfl
            obtain ⟨cs', hb'⟩ := hl.blocks _ hg
            rw [hb5] at hb'
            injection hb' with hb'
            injection hb' with _ ht
            exact absurd ht (by decide)
          exact (Below.heap_setCell _ _ _ _ (by show g ≠ w.heap.size; exact hne)).trans (Below.heap_setCell _ _ _ _ (by show g ≠ w.heap.size; exact hne))
        refine ⟨i + 1, fun j => if j = i then .slice A5 xd.length c5 else V j, by omega, by go_num, Lib.hid ⟨hxf, hr7.congr fun j hj => ?_, fun j hj => ?_, fun j k hj hk hne g hg => ?_⟩⟩
        · by_cases e : j = i
          · subst e
            simp [HE.out.1]
          · by_cases hlt : j < i
            · simp [e, hlt, show j < i + 1 by omega]
            · simp [e, hlt, show ¬ j < i + 1 by omega]
        · by_cases e : j = i
          · subst e
            simp only [if_true]
            rw [HE.out.2]
            exact ⟨hkeep _ _ hL5, fun g hg => Nat.le_trans hx.size (hl5 g hg)⟩
          · simp only [if_neg e]
            exact ⟨hkeep _ _ ((hold j (by omega)).1.ext hx5), (hold j (by omega)).2⟩
        · by_cases e : j = i
          · subst e
            simp only [if_true] at hg
            simp only [if_neg (fun q => hne (Eq.symm q) : ¬ k = j)]
            intro hg2
            have q1 := (hold k (by omega)).1.lt hg2
            have q2 := hl5 g hg
            omega
          · simp only [if_neg e] at hg
            by_cases e2 : k = i
            · subst e2
              simp only [if_true]
              intro hg2
              have q1 := (hold j (by omega)).1.lt hg
              have q2 := hl5 g hg2
              omega
            · simp only [if_neg e2]
              exact hdis j k (by omega) (by omega) hne g hg
    · have hin' : ¬ (i : Int) < (ds.length : Nat) := by omega
      clear hA
      go_wp2
      go_ret
      obtain ⟨hx, hrow, hold, hdis⟩ := HW.out
      obtain rfl : i = ds.length := by omega
      exact ⟨_, _, V, rfl, ⟨Nat.le_refl _, by unfold maxLen; omega, fun _ => ⟨_, rfl, hrow.congr fun j hj => ⟨if_pos hj, if_pos hj⟩⟩, fun j hj => (hold j hj).1, hdis⟩, fun j hj => (hold j hj).2, fun g o s e => by injection e with e; injection e with e; omega, hx⟩
end Go.Proofs.YtjpgjmhdjepfgaaDoor
