/- What is proved: contracts and plain laws for what the later texts lean on (Sl, Sl2, Sl3). Conditions: those of each. -/
import Derived.Test.YtcejdgnfmcgopaaGreatDoorPd
import Derived.Test.YtcejdgnfmcgopaaGreatDoorDdl
namespace Go.Proofs.YtcejdgnfmcgopaaGreatDoor
open Go.RowKit
/-- slices of rows, their leaves V -/
def MatSV (w : World) (A : Option Addr) (c : Nat) (L : List (List (List Int))) (V : Nat → Nat → Value) : Prop :=
  L.length ≤ c ∧ c ≤ maxLen ∧ ∃ b o, (0 < L.length → A = some ⟨b, o, none⟩ ∧ ∃ cs fz, w.heap[b]? = some (.cells cs 23 fz)) ∧
    ∀ i, i < L.length → ∃ Ar cr, w.cell? ⟨b, o + i, none⟩ = some (.slice Ar (nth L i).length cr) ∧ MatL w Ar cr (nth L i) (V i) ∧ Dis (nth L i).length (V i)
/-- the leaves' blocks -/
def LS (L : List (List (List Int))) (V : Nat → Nat → Value) (g : Nat) : Prop := ∃ i, i < L.length ∧ LV (nth L i).length (V i) g
theorem MatSV.mats {w : World} {A : Option Addr} {c : Nat} {L : List (List (List Int))} {V : Nat → Nat → Value} (h : MatSV w A c L V) : MatS w A c L := by
  obtain ⟨h1, h2, b, o, hA, hc⟩ := h
  refine ⟨h1, h2, b, o, fun h0 => (hA h0).1, fun i hi => ?_⟩
  obtain ⟨Ar, cr, e, hM, -⟩ := hc i hi
  exact ⟨Ar, cr, e, hM.mat⟩
theorem MatSV.lt {w : World} {A : Option Addr} {c : Nat} {L : List (List (List Int))} {V : Nat → Nat → Value} (h : MatSV w A c L V) {g : Nat} (hg : LS L V g) : g < w.heap.size := by
  obtain ⟨h1, h2, b, o, hA, hc⟩ := h
  obtain ⟨i, hi, j, hj, q⟩ := hg
  obtain ⟨Ar, cr, e, hM, -⟩ := hc i hi
  exact hM.lt hj q
theorem MatSV.isI {w : World} {A : Option Addr} {c : Nat} {L : List (List (List Int))} {V : Nat → Nat → Value} (h : MatSV w A c L V) {g : Nat} (hg : LS L V g) : ∃ cs, w.heap[g]? = some (.cells cs 3 (0, 0)) := by
  obtain ⟨h1, h2, b, o, hA, hc⟩ := h
  obtain ⟨i, hi, q⟩ := hg
  obtain ⟨Ar, cr, e, hM, -⟩ := hc i hi
  exact hM.isI q
theorem MatSV.keepT {w w' : World} {A : Option Addr} {c : Nat} {L : List (List (List Int))} {V : Nat → Nat → Value} (h : MatSV w A c L V) (k : KeepT w w') : MatSV w' A c L V := by
  obtain ⟨h1, h2, b, o, hA, hc⟩ := h
  refine ⟨h1, h2, b, o, fun h0 => ?_, fun i hi => ?_⟩
  · obtain ⟨e, cs, fz, hb⟩ := hA h0
    exact ⟨e, cs, fz, (k b cs _ fz hb (.inr (.inr rfl))).trans hb⟩
  · obtain ⟨e, cs, fz, hb⟩ := hA (by omega)
    obtain ⟨Ar, cr, e2, hM, hD⟩ := hc i hi
    exact ⟨Ar, cr, by rw [← e2]; exact World.cell?_of_block (k b cs _ fz hb (.inr (.inr rfl))), hM.keepT k, hD⟩
theorem MatSV.only {S : Nat → Prop} {w w' : World} {A : Option Addr} {c : Nat} {L : List (List (List Int))} {V : Nat → Nat → Value} (h : MatSV w A c L V) (k : Only S w w') (hs : ∀ g, LS L V g → ¬ S g)
    (hI : ∀ g, S g → ∃ cs, w.heap[g]? = some (.cells cs 3 (0, 0))) : MatSV w' A c L V := by
  obtain ⟨h1, h2, b, o, hA, hc⟩ := h
  have hb : 0 < L.length → ¬ S b := fun h0 hS => by
    obtain ⟨_, cs, fz, hb⟩ := hA h0
    obtain ⟨cs', hb'⟩ := hI b hS
    rw [hb] at hb'
    injection hb' with hb'
    injection hb' with _ ht
    exact absurd ht (by decide)
  refine ⟨h1, h2, b, o, fun h0 => ?_, fun i hi => ?_⟩
  · obtain ⟨e, cs, fz, hbb⟩ := hA h0
    exact ⟨e, cs, fz, (k.2.2.2.2 b (hb h0)).trans hbb⟩
  · obtain ⟨Ar, cr, e, hM, hD⟩ := hc i hi
    refine ⟨Ar, cr, ?_, hM.only k (fun g hg => hs g ⟨i, hi, hg⟩) hI, hD⟩
    rw [World.cell?_of_block (w := w) (k.2.2.2.2 b (hb (by omega)))]
    exact e
/-- what a copy of slices of rows leaves -/
def FreshSV (w : World) (L : List (List (List Int))) (e : Ending) (w' : World) : Prop := ∃ A c V, e = .returned (.slice A L.length c) ∧ MatSV w' A c L V ∧ Cross L V ∧ (∀ g, LS L V g → w.heap.size ≤ g) ∧ Ext w w'
set_option maxHeartbeats 2000000 in
theorem toIntSSS_v (A : Option Addr) (c : Nat) (L : List (List (List Int))) (w : World) (h : MatS w A c L) (hz : L.length ≤ 1048576) (hr : ∀ i, i < L.length → (nth L i).length + total (nth L i) ≤ 1048576) :
    Calls Tryz.prog 65 #[.slice A L.length c] w (FreshSV w L) := by
  obtain ⟨h1, h2, _⟩ := id h
  obtain ⟨b, o, R, rc, hA, hrow, -, hmat⟩ := h.parts
  unfold maxLen at h2
  have hmk := run_make_row' (P := Tryz.prog) 24 23 (.slice none 0 0) 24 Tryz.underlying24 infoM rfl .i64 .i64 L.length (by omega) (by omega)
  go_enter Tryz.func65, Tryz.ntmps65
  go_wp2
  clear hmk
  go_loopg [4] L.length (fun g s4 wr => ∃ (i : Nat) (V : Nat → Option Addr × Nat) (Z : Nat → Nat → Value), i + g = L.length ∧ s4 = .int .i64 i ∧ Hid (Ext w wr ∧ wr.rowIs w.heap.size 23 L.length (fun j => if j < i then .slice (V j).1 (nth L j).length (V j).2 else .slice none 0 0) ∧
    (∀ j, j < i → MatL wr (V j).1 (V j).2 (nth L j) (Z j) ∧ Dis (nth L j).length (Z j) ∧ ∀ g, LV (nth L j).length (Z j) g → w.heap.size ≤ g) ∧ ∀ j k, j < i → k < i → j ≠ k → ∀ g, LV (nth L j).length (Z j) g → ¬ LV (nth L k).length (Z k) g))
  case atStart => exact ⟨0, fun _ => (none, 0), fun _ _ => .slice none 0 0, by omega, rfl, Lib.hid ⟨Ext.alloc _ _, (World.rowIs_made w _ _ _).congr (fun j _ => by simp), fun j hj => absurd hj (by omega), fun j k hj => absurd hj (by omega)⟩⟩
  case round =>
    obtain ⟨i, V, Z, hi, rfl, HW⟩ := hrel
    by_cases hini : i < L.length
    · obtain ⟨gi, rfl⟩ : ∃ g', gk = g' + 1 := ⟨gk - 1, by omega⟩
      have hini' : (i : Int) < (L.length : Nat) := by omega
      obtain rfl := hA (by omega)
      have c1 := HW.out.1.cell (hrow i hini)
      have hri := hr i hini
      have HC := Lib.hid (toIntSS_any (R i) (rc i) (nth L i) wr ((hmat i hini).ext HW.out.1) (by omega) (fun j hj => by have := row_le_total hj; omega))
      clear hrow hmat hr hri
      go_wp2_with (go_at_call 64; refine HC.out.mono ?_; rintro e w1 ⟨Av, cv, Zv, rfl, hv, hvd, hvl, hx1⟩; have HV := Lib.hid (And.intro hv (And.intro hvd hvl)); have HX := Lib.hid hx1; clear hv hvd hvl hx1; have c2 := (HW.out.2.1.of_block (HX.out.block HW.out.2.1.lt)).cell hini; have c3 := (HW.out.2.1.of_block (HX.out.block HW.out.2.1.lt)).frozen i; rw [if_neg (by omega)] at c2)
      go_roundg gi
      case measure => omega
      case rel =>
        obtain ⟨hx, hrow, hold, hcr⟩ := HW.out
        have hx1 := HX.out
        obtain ⟨hv, hvd, hvl⟩ := HV.out
        have hb := hrow.of_block (hx1.block hrow.lt)
        have hkeep : ∀ {A' : Option Addr} {c' : Nat} {D' : List (List Int)} {Z : Nat → Value}, MatL w1 A' c' D' Z → MatL (w1.setCell ⟨w.heap.size, i, none⟩ (.slice Av (nth L i).length cv)) A' c' D' Z := fun hl => hl.keepR fun g cs t fz hg ht => Below.heap_setCell _ _ _ _ fun e => by
          have e : g = w.heap.size := e
          subst e
          obtain ⟨cs2, hb2, _⟩ := hb
          rw [hb2] at hg
          injection hg with hg; injection hg with _ hg
          rcases ht with h | h
          · rw [h] at hg; exact absurd hg (by decide)
          · rw [h] at hg; exact absurd hg (by decide)
        have hnew : ∀ g, LV (nth L i).length Zv g → wr.heap.size ≤ g := fun g ⟨p, hp, hg⟩ => hvl p hp g hg
        have hap : ∀ j, j < i → ∀ g, LV (nth L j).length (Z j) g → ¬ LV (nth L i).length Zv g := fun j hj g hg hg2 => by
          obtain ⟨p, hp, hgp⟩ := hg
          have q1 := (hold j hj).1.lt hp hgp
          have q2 := hnew g hg2
          omega
        refine ⟨i + 1, fun j => if j = i then (Av, cv) else V j, fun j => if j = i then Zv else Z j, by omega, by go_num, Lib.hid ⟨(hx.trans hx1).setCell' (Nat.le_refl _) _, (hb.set i _).congr (fun j _ => ?_), fun j hj => ?_, fun j k hj hk hne => ?_⟩⟩
        · by_cases e : j = i
          · subst e; simp
          · simp only [if_neg e]
            by_cases hlt : j < i
            · rw [if_pos hlt, if_pos (by omega)]
            · rw [if_neg hlt, if_neg (by omega)]
        · by_cases e : j = i
          · subst e; simp only [if_true]; exact ⟨hkeep hv, hvd, fun g hg => Nat.le_trans hx.size (hnew g hg)⟩
          · simp only [if_neg e]
            obtain ⟨hZ, hZd, hZl⟩ := hold j (by omega)
            exact ⟨hkeep (hZ.ext hx1), hZd, hZl⟩
        · by_cases e : j = i
          · subst e
            simp only [if_true, if_neg (fun e => hne (Eq.symm e) : ¬ k = j)]
            exact fun g hg hg2 => hap k (by omega) g hg2 hg
          · by_cases e2 : k = i
            · subst e2
              simp only [if_true, if_neg e]
              exact hap j (by omega)
            · simp only [if_neg e, if_neg e2]
              exact hcr j k (by omega) (by omega) hne
    · have hini' : ¬ (i : Int) < (L.length : Nat) := by omega
      clear hrow hmat hr
      go_wp2
      go_ret
      obtain ⟨hx, hrow, hold, hcr⟩ := HW.out
      have hiD : i = L.length := by omega
      subst hiD
      refine ⟨_, _, Z, rfl, ⟨Nat.le_refl _, by unfold maxLen; omega, w.heap.size, 0, fun _ => ⟨rfl, ?_⟩, fun j hj => ?_⟩, fun j k hj hk hne p hp q hq g hg hg2 => hcr j k hj hk hne g ⟨p, hp, hg⟩ ⟨q, hq, hg2⟩, fun g ⟨j, hj, hg⟩ => (hold j hj).2.2 g hg, hx⟩
      · obtain ⟨cs, hb, _⟩ := hrow
        exact ⟨cs, _, hb⟩
      · obtain ⟨hZ, hZd, -⟩ := hold j hj
        exact ⟨_, _, by rw [Nat.zero_add, hrow.cell hj, if_pos hj], hZ, hZd⟩
/-- a desk, its leaves Z and V -/
def DkV (W : World) (v : Value) (D : List (List Int)) (L : List (List (List Int))) (Z : Nat → Value) (V : Nat → Nat → Value) : Prop :=
  ∃ A c B d, v = .agg #[.slice A D.length c, .slice B L.length d] ∧ MatL W A c D Z ∧ Dis D.length Z ∧ MatSV W B d L V ∧ Cross L V ∧ ∀ g, LV D.length Z g → ¬ LS L V g
/-- its leaves' blocks -/
def LD (D : List (List Int)) (L : List (List (List Int))) (Z : Nat → Value) (V : Nat → Nat → Value) (g : Nat) : Prop := LV D.length Z g ∨ LS L V g
theorem DkV.desk {w : World} {v : Value} {D : List (List Int)} {L : List (List (List Int))} {Z : Nat → Value} {V : Nat → Nat → Value} (h : DkV w v D L Z V) : DeskM w v D L := by
  obtain ⟨A, c, B, d, e, h1, -, h2, -⟩ := h
  exact ⟨A, c, B, d, e, h1.mat, h2.mats⟩
theorem DkV.lt {w : World} {v : Value} {D : List (List Int)} {L : List (List (List Int))} {Z : Nat → Value} {V : Nat → Nat → Value} (h : DkV w v D L Z V) {g : Nat} (hg : LD D L Z V g) : g < w.heap.size := by
  obtain ⟨A, c, B, d, e, h1, -, h2, -⟩ := h
  rcases hg with ⟨i, hi, q⟩ | q
  · exact h1.lt hi q
  · exact h2.lt q
theorem DkV.keepT {w w' : World} {v : Value} {D : List (List Int)} {L : List (List (List Int))} {Z : Nat → Value} {V : Nat → Nat → Value} (h : DkV w v D L Z V) (k : KeepT w w') : DkV w' v D L Z V := by
  obtain ⟨A, c, B, d, e, h1, h2, h3, h4⟩ := h
  exact ⟨A, c, B, d, e, h1.keepT k, h2, h3.keepT k, h4⟩
theorem DkV.ext {w w' : World} {v : Value} {D : List (List Int)} {L : List (List (List Int))} {Z : Nat → Value} {V : Nat → Nat → Value} (h : DkV w v D L Z V) (k : Ext w w') : DkV w' v D L Z V := h.keepT (KeepT.of_ext k)
theorem OwnM.matL {b : Nat} {w : World} {u : Value} {D : List (List Int)} {V : Nat → Value} (h : OwnM b w u D V) : ∃ A c, u = .slice A D.length c ∧ MatL w A c D V := by
  obtain ⟨A, c, e, h1, h2, h3, h4, -⟩ := h.obj
  refine ⟨A, c, e, h1, h2, ?_⟩
  by_cases h0 : 0 < D.length
  · obtain ⟨g, cs, e1, -, e3, e4⟩ := h3 h0
    refine ⟨g, 0, fun _ => ⟨e1, cs, _, e3⟩, fun i hi => ⟨?_, h4 i hi⟩⟩
    rw [cell_cells e3, Nat.zero_add]
    exact e4 i hi
  · exact ⟨0, 0, fun q => absurd q h0, fun i hi => absurd hi (by omega)⟩
theorem OwnS.matsV {b : Nat} {w : World} {v : Value} {L : List (List (List Int))} {U : Nat → Value} {V : Nat → Nat → Value} (h : OwnS b w v L U V) : ∃ A c, v = .slice A L.length c ∧ MatSV w A c L V := by
  obtain ⟨A, c, e, h1, h2, h3⟩ := h.parts
  refine ⟨A, c, e, h1, h2, ?_⟩
  by_cases h0 : 0 < L.length
  · obtain ⟨g, e1, -, ⟨cs, e3⟩, e4⟩ := h3 h0
    refine ⟨g, 0, fun _ => ⟨e1, cs, _, e3⟩, fun i hi => ?_⟩
    obtain ⟨Ar, cr, q1, q2⟩ := (h.2.1 i hi).matL
    exact ⟨Ar, cr, by rw [Nat.zero_add, e4 i hi, q1], q2, (h.2.1 i hi).2.2.1⟩
  · exact ⟨0, 0, fun q => absurd q h0, fun i hi => absurd hi (by omega)⟩
theorem OwnDk.leaves {b : Nat} {w : World} {v : Value} {D : List (List Int)} {L : List (List (List Int))} (h : OwnDk b w v D L) : ∃ Z V, DkV w v D L Z V ∧ ∀ g, LD D L Z V g → b ≤ g := by
  obtain ⟨v1, v2, Z, U, V, rfl, h1, h2, h3⟩ := h
  obtain ⟨A, c, rfl, hM⟩ := h1.matL
  obtain ⟨B, d, rfl, hS⟩ := h2.matsV
  refine ⟨Z, V, ⟨A, c, B, d, rfl, hM, h1.2.2.1, hS, h2.2.2, fun g ⟨p, hp, hg⟩ ⟨j, hj, q, hq, hg2⟩ => h3 p hp j hj q hq g hg hg2⟩, fun g hg => ?_⟩
  rcases hg with ⟨i, hi, q⟩ | ⟨j, hj, i, hi, q⟩
  · exact h1.2.2.2 i hi g q
  · exact (h2.2.1 j hj).2.2.2 i hi g q
end Go.Proofs.YtcejdgnfmcgopaaGreatDoor
namespace Go.Proofs.YtcejdgnfmcgopaaGreatDoor
open Go.RowKit
/-- what a copy of a desk leaves -/
def FreshDV (w : World) (D : List (List Int)) (L : List (List (List Int))) (e : Ending) (w' : World) : Prop :=
  ∃ v Z V, e = .returned v ∧ DkV w' v D L Z V ∧ (∀ g, LD D L Z V g → w.heap.size ≤ g) ∧ Ext w w'
set_option maxHeartbeats 4000000 in
theorem toDesk_v (A B : Option Addr) (c d : Nat) (D : List (List Int)) (L : List (List (List Int))) (w : World) (h1 : Mat w A c D) (h2 : MatS w B d L) (hz : D.length + total D ≤ 1048576) (hzL : L.length ≤ 1048576) (hr : ∀ i, i < L.length → (nth L i).length + total (nth L i) ≤ 1048576) :
    Calls Tryz.prog 19 #[.agg #[.slice A D.length c, .slice B L.length d]] w (FreshDV w D L) := by
  have H1 := Lib.hid h1
  have H2 := Lib.hid h2
  have HR := Lib.hid hr
  have hzr : ∀ j, j < D.length → (row D j).length ≤ 1048576 := fun j hj => by have := row_le_total hj; omega
  have HZ := Lib.hid hzr
  clear h1 h2 hr hzr
  go_enter Tryz.func19, Tryz.ntmps19
  go_wp2_with fail
  refine (toIntSS_any A c D _ (H1.out.ext (by repeat (first | exact Ext.refl _ | assumption | apply Ext.drewN' | apply Ext.alloc' | refine Ext.trans ?_ (by assumption)))) (by omega) HZ.out).mono ?_
  rintro e w1 ⟨A1, c1, V, rfl, hm, hmd, hml, hx⟩
  obtain ⟨b0, b1, b2⟩ := three_blocks hx
  have hw1 : Ext w w1 := ((((Ext.refl w).alloc' _).alloc' _).alloc' _).trans hx
  have g0 := cell_cells b0 1
  have g2 := cell_cells b2 0
  have g2f := frozen_cells b2 0
  simp only [List.getElem?_toArray, List.getElem?_cons_zero, List.getElem?_cons_succ] at g0 g2
  obtain ⟨u1, hu1⟩ : ∃ u1, w1.setCell ⟨w.heap.size + 1 + 1, 0, none⟩ (.slice A1 D.length c1) = u1 := ⟨_, rfl⟩
  have bu2 : u1.heap[w.heap.size + 1 + 1]? = some (.cells #[.slice A1 D.length c1, .slice none 0 0] 26 (0, 0)) := by rw [← hu1]; exact set_0 b2
  have bu1 : u1.heap[w.heap.size + 1]? = w1.heap[w.heap.size + 1]? := by rw [← hu1]; exact Below.heap_setCell _ _ _ _ (by show w.heap.size + 1 ≠ w.heap.size + 1 + 1; omega)
  have bu0 : u1.heap[w.heap.size]? = w1.heap[w.heap.size]? := by rw [← hu1]; exact Below.heap_setCell _ _ _ _ (by show w.heap.size ≠ w.heap.size + 1 + 1; omega)
  have g0u := cell_cells (bu0.trans b0) 1
  simp only [List.getElem?_toArray, List.getElem?_cons_zero, List.getElem?_cons_succ] at g0u
  have hu : Ext w u1 := by rw [← hu1]; exact hw1.setCell' (by show w.heap.size ≤ w.heap.size + 1 + 1; omega) _
  have hk1 : KeepT w1 u1 := by rw [← hu1]; exact KeepT.set (p := ⟨w.heap.size + 1 + 1, 0, none⟩) b2 (by decide) _
  have HB := Lib.hid b1
  have HU := Lib.hid (And.intro bu2 (And.intro bu1 (And.intro hu hk1)))
  have HM := Lib.hid hm
  have HMD := Lib.hid (And.intro hmd hml)
  have HMS := Lib.hid (toIntSSS_v B d L u1 (H2.out.ext hu) hzL HR.out)
  have sw1 : w1.heap.size ≤ u1.heap.size := by rw [← hu1]; simp [World.setCell]
  clear hx b0 b1 b2 hw1 bu2 bu1 bu0 hu hk1 hm hmd hml H1 H2 HR HZ
  have sz1 : w.heap.size ≤ u1.heap.size := HU.out.2.2.1.size
  go_wp2_with fail
  refine HMS.out.mono ?_
  rintro e w3 ⟨B3, d3, VS, rfl, hS, hSc, hSl, hx3⟩
  have HSC := Lib.hid (And.intro hSc hSl)
  have c2 : w3.heap[w.heap.size + 1 + 1]? = some (.cells #[.slice A1 D.length c1, .slice none 0 0] 26 (0, 0)) := (hx3.block (heap_lt HU.out.1)).trans HU.out.1
  have c1' : w3.heap[w.heap.size + 1]? = some (.cells #[.slice none 0 0, .slice none 0 0] 26 (0, 0)) := (hx3.block (by have := heap_lt HU.out.1; omega)).trans (HU.out.2.1.trans HB.out)
  have k20 := cell_cells c2 0
  have k21 := cell_cells c2 1
  have k2f := frozen_cells c2 1
  have k10 := cell_cells c1' 0
  have k11 := cell_cells c1' 1
  have k1f := frozen_cells c1' 0
  have k1g := frozen_cells c1' 1
  simp only [List.getElem?_toArray, List.getElem?_cons_zero, List.getElem?_cons_succ] at k20 k21 k10 k11
  have HS := Lib.hid hS
  have HX3 := Lib.hid hx3
  have HC2 := Lib.hid c2
  have HC1 := Lib.hid c1'
  clear hS hSc hSl hx3 c2 c1' hu1 g0 g0u g2 g2f HMS
  go_wp2
  have e1 := set_1 (u := .slice B3 L.length d3) HC2.out
  have e2 : (w3.setCell ⟨w.heap.size + 1 + 1, 1, none⟩ (.slice B3 L.length d3)).heap[w.heap.size + 1]? = some (.cells #[.slice none 0 0, .slice none 0 0] 26 (0, 0)) := (Below.heap_setCell _ _ _ _ (by show w.heap.size + 1 ≠ w.heap.size + 1 + 1; omega)).trans HC1.out
  have kt1 : KeepT w3 (w3.setCell ⟨w.heap.size + 1 + 1, 1, none⟩ (.slice B3 L.length d3)) := KeepT.set (p := ⟨w.heap.size + 1 + 1, 1, none⟩) HC2.out (by decide) _
  have kt2 := KeepT.set (p := ⟨w.heap.size + 1, 0, none⟩) e2 (by decide) (.slice A1 D.length c1)
  have kt3 := KeepT.set (p := ⟨w.heap.size + 1, 1, none⟩) (set_0 (u := .slice A1 D.length c1) e2) (by decide) (.slice B3 L.length d3)
  have kt := (kt1.trans kt2).trans kt3
  have e3 := set_1 (u := .slice B3 L.length d3) (set_0 (u := .slice A1 D.length c1) e2)
  have f0 := cell_cells e3 0
  have f1 := cell_cells e3 1
  simp only [List.getElem?_toArray, List.getElem?_cons_zero, List.getElem?_cons_succ] at f0 f1
  refine bodyPost_ret (v := .agg #[.slice A1 D.length c1, .slice B3 L.length d3]) (by simp [results, Tryz.results19, go_sem, f0, f1]) rfl ⟨_, V, VS, rfl, ⟨A1, c1, B3, d3, rfl, ((HM.out.keepT HU.out.2.2.2).keepT (KeepT.of_ext HX3.out)).keepT kt, HMD.out.1, HS.out.keepT kt, HSC.out.1, fun g ⟨p, hp, hg⟩ hg2 => ?_⟩, fun g hg => ?_, ?_⟩
  · have q1 := HM.out.lt hp hg
    have q2 := HSC.out.2 g hg2
    omega
  · rcases hg with ⟨p, hp, hg⟩ | hg
    · have q1 := HMD.out.2 p hp g hg
      simp at q1
      omega
    · have q2 := HSC.out.2 g hg
      omega
  · exact (((HU.out.2.2.1.trans HX3.out).setCell' (by show w.heap.size ≤ w.heap.size + 1 + 1; omega) _).setCell' (by show w.heap.size ≤ w.heap.size + 1; omega) _).setCell' (by show w.heap.size ≤ w.heap.size + 1; omega) _
/-- all numbers of slices of rows -/
def preS (L : List (List (List Int))) : Nat → Nat
  | 0 => 0
  | i + 1 => preS L i + total (nth L i)
theorem preS_le (L : List (List (List Int))) : ∀ i j, i ≤ j → preS L i ≤ preS L j := by
  intro i j
  induction j with
  | zero => intro h; obtain rfl : i = 0 := by omega
            exact Nat.le_refl _
  | succ j ih =>
    intro h
    by_cases e : i = j + 1
    · subst e; exact Nat.le_refl _
    · have := ih (by omega)
      show preS L i ≤ preS L j + total (nth L j)
      omega
theorem szSR_tot (L : List (List (List Int))) : ∀ g i l, 0 ≤ szSR L g i l → ((preS L (i + g) : Nat) : Int) ≤ preS L i + l := by
  intro g
  induction g with
  | zero => intro i l h; have h : 0 ≤ l := h; rw [Nat.add_zero]; omega
  | succ g ih =>
    intro i l h
    unfold szSR at h
    split at h
    · omega
    · rename_i hz
      obtain ⟨h1, h2⟩ := szM_spec (D := nth L i) (l := l) (by omega)
      have := ih (i + 1) _ h
      rw [show i + (g + 1) = i + 1 + g by omega]
      have e : preS L (i + 1) = preS L i + total (nth L i) := rfl
      omega
def mixS (L : List (List (List Int))) (k : Int) (i : Nat) : List (List (List Int)) := (List.range L.length).map fun j => if j < i then markM (nth L j) (k + preS L j) else nth L j
def markS (L : List (List (List Int))) (k : Int) : List (List (List Int)) := mixS L k L.length
theorem mixS_len (L : List (List (List Int))) (k : Int) (i : Nat) : (mixS L k i).length = L.length := by simp [mixS]
theorem nth_mixS {L : List (List (List Int))} {k : Int} {i j : Nat} (h : j < L.length) : nth (mixS L k i) j = if j < i then markM (nth L j) (k + preS L j) else nth L j := by
  rw [nth_of (by rw [mixS_len]; exact h)]; simp [mixS]
theorem markM_len (D : List (List Int)) (k : Int) : (markM D k).length = D.length := mixM_len _ _ _
theorem nth_mixS_len {L : List (List (List Int))} {k : Int} {i j : Nat} (h : j < L.length) : (nth (mixS L k i) j).length = (nth L j).length := by
  rw [nth_mixS h]; split
  · exact markM_len _ _
  · rfl
theorem LS_mix {L : List (List (List Int))} {k : Int} {i : Nat} {V : Nat → Nat → Value} {g : Nat} : LS (mixS L k i) V g ↔ LS L V g := by
  unfold LS
  rw [mixS_len]
  exact exists_congr fun j => and_congr_right fun hj => by rw [nth_mixS_len hj]
theorem MatSV.mix0 {w : World} {A : Option Addr} {c : Nat} {L : List (List (List Int))} {k : Int} {V : Nat → Nat → Value} (h : MatSV w A c L V) : MatSV w A c (mixS L k 0) V := by
  have e : mixS L k 0 = L := ext_nth (mixS_len _ _ _) fun i hi => by rw [mixS_len] at hi; rw [nth_mixS hi, if_neg (by omega)]
  rw [e]; exact h
set_option maxHeartbeats 2000000 in
theorem markIntSSS_v (A : Option Addr) (c : Nat) (L : List (List (List Int))) (V : Nat → Nat → Value) (k : Int) (w : World) (h : MatSV w A c L V) (hc : Cross L V) (hk0 : 0 ≤ k) (hk1 : k ≤ 800000000000) (hz : preS L L.length ≤ 10000000) (hn : ∀ i, i < L.length → (nth L i).length ≤ 10000000) :
    Calls Tryz.prog 69 #[.slice A L.length c, .int .i64 k] w fun e w' => e = .returned (.int .i64 (k + preS L L.length)) ∧ MatSV w' A c (markS L k) V ∧ Only (LS L V) w w' := by
  obtain ⟨h1, h2, b, o, hA, _⟩ := id h
  unfold maxLen at h2
  have HCR := Lib.hid hc
  have HNN := Lib.hid hn
  have hA' : 0 < L.length → A = some ⟨b, o, none⟩ := fun h0 => (hA h0).1
  clear hc hA hn
  go_enter Tryz.func69, Tryz.ntmps69
  go_wp2
  go_loopg [1, 5] L.length (fun g s1 s5 wr => ∃ (i : Nat) (s : Int), i + g = L.length ∧ s5 = .int .i64 i ∧ s1 = .int .i64 s ∧ 0 ≤ s ∧ s ≤ 900000000000 ∧ Hid (s = k + preS L i ∧ Only (LS L V) w wr ∧ MatSV wr A c (mixS L k i) V))
  case atStart => exact ⟨0, _, by omega, rfl, rfl, by omega, by omega, Lib.hid ⟨by simp [preS], Only.refl _ _, h.mix0⟩⟩
  case round =>
    obtain ⟨i, s, hi, rfl, rfl, hs0, hs1, HW⟩ := hrel
    by_cases hin : i < L.length
    · obtain ⟨g', rfl⟩ : ∃ g', gk = g' + 1 := ⟨gk - 1, by omega⟩
      have hin' : (i : Int) < (L.length : Nat) := by omega
      obtain rfl := hA' (by omega)
      have hp1 := preS_le L (i + 1) L.length (by omega)
      have hps : preS L (i + 1) = preS L i + total (nth L i) := rfl
      obtain ⟨Ar, cr, c1, HL⟩ : ∃ Ar cr, wr.cell? ⟨b, o + i, none⟩ = some (.slice Ar (nth L i).length cr) ∧ Hid (MatL wr Ar cr (nth L i) (V i) ∧ Dis (nth L i).length (V i)) := by
        obtain ⟨_, _, b', o', hA2, hc⟩ := HW.out.2.2
        have hAe := (hA2 (by rw [mixS_len]; omega)).1
        injection hAe with hAe; injection hAe with e1 e2
        subst e1; subst e2
        obtain ⟨Ar, cr, e, hl, hd⟩ := hc i (by rw [mixS_len]; exact hin)
        rw [nth_mixS hin, if_neg (by omega)] at e hl hd
        exact ⟨Ar, cr, e, Lib.hid ⟨hl, hd⟩⟩
      have hsE := HW.out.1
      have HC := Lib.hid (markIntSS_any Ar cr (nth L i) (V i) s wr HL.out.1 HL.out.2 hs0 hs1 (HNN.out i hin) (by omega))
      have HP := Lib.hid (And.intro hps (show s + (total (nth L i) : Nat) ≤ 900000000000 by omega))
      clear hA' hsE hps hp1
      go_wp2_with (go_at_call 68; refine HC.out.mono ?_; rintro e w1 ⟨rfl, hl1, ho1⟩; have HV := Lib.hid (And.intro hl1 ho1); clear hl1 ho1)
      go_roundg g'
      case measure => omega
      case rel =>
        obtain ⟨es, ho, hm⟩ := HW.out
        obtain ⟨hps, hp1⟩ := HP.out
        obtain ⟨hl1, ho1⟩ := HV.out
        have hS : ∀ g, LV (nth L i).length (V i) g → LS L V g := fun g hg => ⟨i, hin, hg⟩
        have hI := fun g (hg : LV (nth L i).length (V i) g) => HL.out.1.isI hg
        refine ⟨i + 1, s + total (nth L i), by omega, by go_num, by first | rfl | go_num, by omega, by omega, Lib.hid ⟨by omega, ho.trans (ho1.mono hS), ?_⟩⟩
        obtain ⟨m1, m2, b', o', hA2, hc⟩ := hm
        have hbne : ¬ LV (nth L i).length (V i) b' := fun hg => by
          obtain ⟨_, cs, fz, hbb⟩ := hA2 (by rw [mixS_len]; omega)
          obtain ⟨cs', hb'⟩ := hI b' hg
          rw [hbb] at hb'
          injection hb' with hb'
          injection hb' with _ ht
          exact absurd ht (by decide)
        rw [mixS_len] at m1 hA2 hc
        have hAe := (hA2 (by omega)).1
        injection hAe with hAe; injection hAe with e1 e2
        subst e1; subst e2
        refine ⟨by rw [mixS_len]; exact m1, m2, b, o, fun h0 => ?_, fun j hj => ?_⟩
        · obtain ⟨e, cs, fz, hbb⟩ := hA2 (by omega)
          exact ⟨e, cs, fz, (ho1.2.2.2.2 b hbne).trans hbb⟩
        · rw [mixS_len] at hj
          obtain ⟨Aj, cj, e, hl, hd⟩ := hc j hj
          rw [nth_mixS hj] at e hl hd ⊢
          by_cases eji : j = i
          · subst eji
            rw [if_neg (by omega)] at e hl hd
            rw [if_pos (by omega), ← es]
            rw [c1] at e
            injection e with e
            injection e with e1 _ e3
            subst e1 e3
            exact ⟨Ar, cr, by rw [markM_len, World.cell?_of_block (w := wr) (ho1.2.2.2.2 b hbne)]; exact c1, hl1, by rw [markM_len]; exact hd⟩
          · have hne : ∀ g, LV (nth L j).length (V j) g → ¬ LV (nth L i).length (V i) g := fun g ⟨p, hp, hg⟩ ⟨q, hq, hg2⟩ => HCR.out j i hj hin eji p hp q hq g hg hg2
            by_cases hlt : j < i
            · rw [if_pos hlt] at e hl hd
              rw [if_pos (by omega)]
              exact ⟨Aj, cj, by rw [World.cell?_of_block (w := wr) (ho1.2.2.2.2 b hbne)]; exact e, hl.only ho1 (fun g hg => hne g (by rw [markM_len] at hg; exact hg)) hI, hd⟩
            · rw [if_neg hlt] at e hl hd
              rw [if_neg (by omega)]
              exact ⟨Aj, cj, by rw [World.cell?_of_block (w := wr) (ho1.2.2.2.2 b hbne)]; exact e, hl.only ho1 hne hI, hd⟩
    · have hin' : ¬ (i : Int) < (L.length : Nat) := by omega
      clear hA'
      go_wp2
      go_ret
      have e : i = L.length := by omega
      subst e
      obtain ⟨es, ho, hm⟩ := HW.out
      exact ⟨ret_int (by rw [es]), hm, ho⟩
set_option maxHeartbeats 2000000 in
theorem heldIntSSS_v (A : Option Addr) (c : Nat) (L : List (List (List Int))) (V : Nat → Nat → Value) (k : Int) (w : World) (h : MatSV w A c (markS L k) V) (hk0 : 0 ≤ k) (hk1 : k ≤ 800000000000) (hz : preS L L.length ≤ 10000000) (hn : ∀ i, i < L.length → (nth L i).length ≤ 10000000) :
    Calls Tryz.prog 71 #[.slice A L.length c, .int .i64 k] w fun e w' => e = .returned (.int .i64 (k + preS L L.length)) ∧ ∃ m, w' = w.drewN m := by
  obtain ⟨h1, h2, b, o, hA, hc⟩ := id h
  unfold maxLen at h2
  unfold markS at h1 hA hc
  rw [mixS_len] at h1 hA hc
  have HNN := Lib.hid hn
  have hA' : 0 < L.length → A = some ⟨b, o, none⟩ := fun h0 => (hA h0).1
  have HC := Lib.hid hc
  clear hc hA hn
  go_enter Tryz.func71, Tryz.ntmps71
  go_wp2
  go_loopg [1, 5] L.length (fun g s1 s5 wr => ∃ (i : Nat) (s : Int) (m : Nat), i + g = L.length ∧ s5 = .int .i64 i ∧ s1 = .int .i64 s ∧ 0 ≤ s ∧ s ≤ 900000000000 ∧ wr = w.drewN m ∧ Hid (s = k + preS L i))
  case atStart => exact ⟨0, _, 0, by omega, rfl, rfl, by omega, by omega, rfl, Lib.hid (by simp [preS])⟩
  case round =>
    obtain ⟨i, s, m, hi, rfl, rfl, hs0, hs1, rfl, HW⟩ := hrel
    by_cases hin : i < L.length
    · obtain ⟨g', rfl⟩ : ∃ g', gk = g' + 1 := ⟨gk - 1, by omega⟩
      have hin' : (i : Int) < (L.length : Nat) := by omega
      obtain rfl := hA' (by omega)
      have hp1 := preS_le L (i + 1) L.length (by omega)
      have hps : preS L (i + 1) = preS L i + total (nth L i) := rfl
      obtain ⟨Ar, cr, c1, hl, -⟩ := HC.out i hin
      rw [nth_mixS_len hin] at c1
      rw [nth_mixS hin, if_pos hin, ← HW.out] at hl
      have hsE := HW.out
      have HCC := Lib.hid (heldmkM_any Ar cr (nth L i) (V i) s w hl hs0 hs1 (HNN.out i hin) (by omega))
      have hneg : ¬ s + (total (nth L i) : Nat) < 0 := by omega
      have HCD := Lib.hid (fun m => heldmkM_any Ar cr (nth L i) (V i) s (w.drewN m) (hl.ext (Ext.drewN _ _)) hs0 hs1 (HNN.out i hin) (by omega))
      have HP := Lib.hid (And.intro hps (show s + (total (nth L i) : Nat) ≤ 900000000000 by omega))
      clear hA' hl HCC hsE hps hp1
      go_wp2_with (go_at_call 70; refine (HCD.out _).mono ?_; rintro e w1 ⟨rfl, mz, rfl⟩)
      go_roundg g'
      case measure => omega
      case rel => exact ⟨i + 1, s + total (nth L i), _, by omega, by go_num, by first | rfl | go_num, by omega, HP.out.2, by first | rfl | exact drewN_add _ _ _, Lib.hid (by have := HW.out; have := HP.out.1; omega)⟩
    · have hin' : ¬ (i : Int) < (L.length : Nat) := by omega
      clear hA'
      go_wp2
      go_ret
      have e : i = L.length := by omega
      subst e
      exact ⟨ret_int (by rw [HW.out]), _, rfl⟩
end Go.Proofs.YtcejdgnfmcgopaaGreatDoor
namespace Go.Proofs.YtcejdgnfmcgopaaGreatDoor
open Go.RowKit
set_option maxHeartbeats 2000000 in
theorem markDesk_v (v : Value) (D : List (List Int)) (L : List (List (List Int))) (Z : Nat → Value) (V : Nat → Nat → Value) (k : Int) (w : World) (h : DkV w v D L Z V) (hk0 : 0 ≤ k) (hk1 : k ≤ 100000000000) (hD : D.length ≤ 10000000) (hT : total D ≤ 10000000) (hz : preS L L.length ≤ 10000000) (hn : ∀ i, i < L.length → (nth L i).length ≤ 10000000) :
    Calls Tryz.prog 21 #[v, .int .i64 k] w fun e w' => e = .returned (.int .i64 (k + total D + preS L L.length)) ∧ DkV w' v (markM D k) (markS L (k + total D)) Z V ∧ ExtS (LD D L Z V) w w' := by
  obtain ⟨A, c, B, d, rfl, hM, hMd, hS, hSc, hap⟩ := h
  have H1 := Lib.hid hM
  have H2 := Lib.hid hS
  have H3 := Lib.hid (And.intro hMd (And.intro hSc hap))
  have hx0 : Ext w (w.alloc (.cells #[.slice A D.length c, .slice B L.length d] 26)) := Ext.alloc _ _
  have HC := Lib.hid (markIntSS_any A c D Z k _ (hM.ext hx0) hMd hk0 (by omega) hD hT)
  have HCS := Lib.hid (fun W (q : MatSV W B d L V) => markIntSSS_v B d L V (k + total D) W q hSc (by omega) (by omega) hz hn)
  clear hM hS hMd hSc hap hn
  go_enter Tryz.func21, Tryz.ntmps21
  go_wp2_with fail
  refine HC.out.mono ?_
  rintro e w1 ⟨rfl, hm, ho⟩
  have hI : ∀ g, LV D.length Z g → ∃ cs, (w.alloc (.cells #[.slice A D.length c, .slice B L.length d] 26)).heap[g]? = some (.cells cs 3 (0, 0)) := fun g hg => (H1.out.ext hx0).isI hg
  have hb : w1.heap[w.heap.size]? = some (.cells #[.slice A D.length c, .slice B L.length d] 26 (0, 0)) := by
    rw [ho.2.2.2.2 _ (fun ⟨i, hi, hg⟩ => absurd (H1.out.lt hi hg) (by omega))]
    exact heap_alloc_new w _
  have c1 : w1.cell? ⟨w.heap.size, 1, none⟩ = some (.slice B L.length d) := by rw [cell_cells hb]; rfl
  have HS1 := Lib.hid ((H2.out.keepT (KeepT.of_ext hx0)).only ho (fun g hg hg2 => H3.out.2.2 g hg2 hg) hI)
  have HM := Lib.hid hm
  have HO := Lib.hid ho
  clear hm ho hb hI HC
  go_wp2_with fail
  refine (HCS.out _ HS1.out).mono ?_
  rintro e w2 ⟨rfl, hm2, ho2⟩
  have HM2 := Lib.hid hm2
  have HO2 := Lib.hid ho2
  clear hm2 ho2 c1
  go_wp2
  go_ret
  have hap : ∀ g, LV (markM D k).length Z g → ¬ LS L V g := fun g hg => by rw [markM_len] at hg; exact H3.out.2.2 g hg
  refine ⟨rfl, ⟨A, c, B, d, by rw [markM_len, show (markS L (k + total D)).length = L.length from mixS_len _ _ _], HM.out.only HO2.out hap (fun g hg => HS1.out.isI hg), by rw [markM_len]; exact H3.out.1, HM2.out, fun i j hi hj hne p hp q hq => ?_, fun g hg hg2 => hap g hg (LS_mix.1 hg2)⟩, ?_⟩
  · have li : i < L.length := by rw [show (markS L (k + total D)).length = L.length from mixS_len _ _ _] at hi; exact hi
    have lj : j < L.length := by rw [show (markS L (k + total D)).length = L.length from mixS_len _ _ _] at hj; exact hj
    exact H3.out.2.1 i j li lj hne p (by rw [← nth_mixS_len (k := k + total D) (i := L.length) li]; exact hp) q (by rw [← nth_mixS_len (k := k + total D) (i := L.length) lj]; exact hq)
  · exact ((ExtS.of hx0).trans ((ExtS.only HO.out).mono fun g hg => .inl hg)).trans ((ExtS.only HO2.out).mono fun g hg => .inr hg)
set_option maxHeartbeats 2000000 in
theorem heldDesk_v (v : Value) (D : List (List Int)) (L : List (List (List Int))) (Z : Nat → Value) (V : Nat → Nat → Value) (k : Int) (w : World) (h : DkV w v (markM D k) (markS L (k + total D)) Z V) (hk0 : 0 ≤ k) (hk1 : k ≤ 100000000000) (hD : D.length ≤ 10000000) (hT : total D ≤ 10000000) (hz : preS L L.length ≤ 10000000) (hn : ∀ i, i < L.length → (nth L i).length ≤ 10000000) :
    Calls Tryz.prog 22 #[v, .int .i64 k] w fun e w' => e = .returned (.int .i64 (k + total D + preS L L.length)) ∧ Ext w w' := by
  obtain ⟨A, c, B, d, rfl, hM, -, hS, -⟩ := h
  rw [markM_len, show (markS L (k + total D)).length = L.length from mixS_len _ _ _]
  have HC := Lib.hid (fun W (q : Ext w W) => heldmkM_any A c D Z k W (hM.ext q) hk0 (by omega) hD hT)
  have HCS := Lib.hid (fun W (q : Ext w W) => heldIntSSS_v B d L V (k + total D) W (hS.keepT (KeepT.of_ext q)) (by omega) (by omega) hz hn)
  have hn1 : ¬ k + (total D : Nat) < 0 := by omega
  have hn2 : ¬ k + (total D : Nat) + (preS L L.length : Nat) < 0 := by omega
  clear hM hS hn
  go_enter Tryz.func22, Tryz.ntmps22
  go_wp2_with fail
  refine (HC.out _ (Ext.alloc _ _)).mono ?_
  rintro e w1 ⟨rfl, m1, rfl⟩
  go_wp2_with fail
  refine (HCS.out _ ((Ext.alloc _ _).drewN' _)).mono ?_
  rintro e w2 ⟨rfl, m2, rfl⟩
  go_wp2
  go_ret
  exact ⟨rfl, by repeat (first | exact Ext.refl _ | apply Ext.drewN' | apply Ext.alloc')⟩
end Go.Proofs.YtcejdgnfmcgopaaGreatDoor
