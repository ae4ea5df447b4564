/- What is proved: copies, marks and reads of desks with all leaves apart (toIntSSS, toDesk, markIntSSS, heldIntSSS, markDesk, heldDesk). Conditions: those of each contract. -/
import Derived.Test.YtbkefojepelggaaPd
namespace Go.Proofs.Ytbkefojepelggaa
open Go.RowKit
/-- all blocks that were there stay, but for those of S -/
def ExtS (S : Nat → Prop) (w w' : World) : Prop := w'.os = w.os ∧ w'.tape = w.tape ∧ w'.output = w.output ∧ w.heap.size ≤ w'.heap.size ∧ ∀ k, k < w.heap.size → ¬ S k → w'.heap[k]? = w.heap[k]?
theorem ExtS.refl (S : Nat → Prop) (w : World) : ExtS S w w := ⟨rfl, rfl, rfl, Nat.le_refl _, fun _ _ _ => rfl⟩
theorem ExtS.of {S : Nat → Prop} {a b : World} (h : Ext a b) : ExtS S a b := by
  obtain ⟨h1, h2, h3, h4, -⟩ := h.toG 0
  exact ⟨h1, h2, h3, h4, fun k k1 _ => h.block k1⟩
theorem ExtS.only {S : Nat → Prop} {a b : World} (h : Only S a b) : ExtS S a b := ⟨h.1, h.2.1, h.2.2.1, by rw [h.2.2.2.1]; exact Nat.le_refl _, fun k _ => h.2.2.2.2 k⟩
theorem ExtS.trans {S : Nat → Prop} {a b c : World} (h : ExtS S a b) (k : ExtS S b c) : ExtS S a c :=
  ⟨k.1.trans h.1, k.2.1.trans h.2.1, k.2.2.1.trans h.2.2.1, Nat.le_trans h.2.2.2.1 k.2.2.2.1, fun q q1 q2 => (k.2.2.2.2 q (Nat.lt_of_lt_of_le q1 h.2.2.2.1) q2).trans (h.2.2.2.2 q q1 q2)⟩
theorem ExtS.mono {S T : Nat → Prop} {a b : World} (h : ExtS S a b) (k : ∀ g, S g → T g) : ExtS T a b := ⟨h.1, h.2.1, h.2.2.1, h.2.2.2.1, fun q q1 q2 => h.2.2.2.2 q q1 fun e => q2 (k q e)⟩
theorem ExtS.ext {S : Nat → Prop} {w0 a b : World} (h : Ext w0 a) (k : ExtS S a b) (hs : ∀ g, S g → w0.heap.size ≤ g) : Ext w0 b := by
  have h1 := h.toG 0
  have hz := h.size
  have h0 : ∀ q, q < w0.heap.size → b.heap[q]? = w0.heap[q]? := fun q hq => (k.2.2.2.2 q (by omega) fun e => by have := hs q e; omega).trans (h.block hq)
  exact ExtG.ext (w0 := w0) (a := w0) (g := w0.heap.size) ⟨k.1.trans h1.1, k.2.1.trans h1.2.1, k.2.2.1.trans h1.2.2.1, Nat.le_trans hz k.2.2.2.1, fun q q1 _ => h0 q q1⟩ (Ext.refl _) (Nat.le_refl _)
/-- slices of rows, their leaves V -/
def MatSV (w : World) (A : Option Addr) (c : Nat) (L : List (List (List Int))) (V : Nat → Nat → Value) : Prop :=
  L.length ≤ c ∧ c ≤ maxLen ∧ ∃ b o, (0 < L.length → A = some ⟨b, o, none⟩ ∧ ∃ cs fz, w.heap[b]? = some (.cells cs 23 fz)) ∧
    ∀ i, i < L.length → ∃ Ar cr, w.cell? ⟨b, o + i, none⟩ = some (.slice Ar (nth L i).length cr) ∧ MatL w Ar cr (nth L i) (V i) ∧ Dis (nth L i).length (V i)
/-- the leaves' blocks -/
def LS (L : List (List (List Int))) (V : Nat → Nat → Value) (g : Nat) : Prop := ∃ i, i < L.length ∧ LV (nth L i).length (V i) g
theorem MatSV.mats {w : World} {A : Option Addr} {c : Nat} {L : List (List (List Int))} {V : Nat → Nat → Value} (h : MatSV w A c L V) : MatS w A c L := by
  obtain ⟨h1, h2, b, o, hA, hc⟩ := h
  refine ⟨h1, h2, b, o, fun h0 => (hA h0).1, fun i hi => ?_⟩
  obtain ⟨Ar, cr, e, hM, -⟩ := hc i hi
  exact ⟨Ar, cr, e, hM.mat⟩
theorem MatSV.lt {w : World} {A : Option Addr} {c : Nat} {L : List (List (List Int))} {V : Nat → Nat → Value} (h : MatSV w A c L V) {g : Nat} (hg : LS L V g) : g < w.heap.size := by
  obtain ⟨h1, h2, b, o, hA, hc⟩ := h
  obtain ⟨i, hi, j, hj, q⟩ := hg
  obtain ⟨Ar, cr, e, hM, -⟩ := hc i hi
  exact hM.lt hj q
theorem MatSV.isI {w : World} {A : Option Addr} {c : Nat} {L : List (List (List Int))} {V : Nat → Nat → Value} (h : MatSV w A c L V) {g : Nat} (hg : LS L V g) : ∃ cs, w.heap[g]? = some (.cells cs 3 (0, 0)) := by
  obtain ⟨h1, h2, b, o, hA, hc⟩ := h
  obtain ⟨i, hi, q⟩ := hg
  obtain ⟨Ar, cr, e, hM, -⟩ := hc i hi
  exact hM.isI q
theorem MatSV.keepT {w w' : World} {A : Option Addr} {c : Nat} {L : List (List (List Int))} {V : Nat → Nat → Value} (h : MatSV w A c L V) (k : KeepT w w') : MatSV w' A c L V := by
  obtain ⟨h1, h2, b, o, hA, hc⟩ := h
  refine ⟨h1, h2, b, o, fun h0 => ?_, fun i hi => ?_⟩
  · obtain ⟨e, cs, fz, hb⟩ := hA h0
    exact ⟨e, cs, fz, (k b cs _ fz hb (.inr (.inr rfl))).trans hb⟩
  · obtain ⟨e, cs, fz, hb⟩ := hA (by omega)
    obtain ⟨Ar, cr, e2, hM, hD⟩ := hc i hi
    exact ⟨Ar, cr, by rw [← e2]; exact World.cell?_of_block (k b cs _ fz hb (.inr (.inr rfl))), hM.keepT k, hD⟩
theorem MatSV.only {S : Nat → Prop} {w w' : World} {A : Option Addr} {c : Nat} {L : List (List (List Int))} {V : Nat → Nat → Value} (h : MatSV w A c L V) (k : Only S w w') (hs : ∀ g, LS L V g → ¬ S g)
    (hI : ∀ g, S g → ∃ cs, w.heap[g]? = some (.cells cs 3 (0, 0))) : MatSV w' A c L V := by
  obtain ⟨h1, h2, b, o, hA, hc⟩ := h
  have hb : 0 < L.length → ¬ S b := fun h0 hS => by
    obtain ⟨_, cs, fz, hb⟩ := hA h0
    obtain ⟨cs', hb'⟩ := hI b hS
    rw [hb] at hb'
    injection hb' with hb'
    injection hb' with _ ht
    exact absurd ht (by decide)
  refine ⟨h1, h2, b, o, fun h0 => ?_, fun i hi => ?_⟩
  · obtain ⟨e, cs, fz, hbb⟩ := hA h0
    exact ⟨e, cs, fz, (k.2.2.2.2 b (hb h0)).trans hbb⟩
  · obtain ⟨Ar, cr, e, hM, hD⟩ := hc i hi
    refine ⟨Ar, cr, ?_, hM.only k (fun g hg => hs g ⟨i, hi, hg⟩) hI, hD⟩
    rw [World.cell?_of_block (w := w) (k.2.2.2.2 b (hb (by omega)))]
    exact e
/-- what a copy of slices of rows leaves -/
def FreshSV (w : World) (L : List (List (List Int))) (e : Ending) (w' : World) : Prop := ∃ A c V, e = .returned (.slice A L.length c) ∧ MatSV w' A c L V ∧ Cross L V ∧ (∀ g, LS L V g → w.heap.size ≤ g) ∧ Ext w w'
set_option maxHeartbeats 2000000 in
theorem toIntSSS_v (A : Option Addr) (c : Nat) (L : List (List (List Int))) (w : World) (h : MatS w A c L) (hz : L.length ≤ 1048576) (hr : ∀ i, i < L.length → (nth L i).length + total (nth L i) ≤ 1048576) :
    Calls Try.prog 53 #[.slice A L.length c] w (FreshSV w L) := by
  obtain ⟨h1, h2, _⟩ := id h
  obtain ⟨b, o, R, rc, hA, hrow, -, hmat⟩ := h.parts
  unfold maxLen at h2
  have hmk := run_make_row' (P := Try.prog) 24 23 (.slice none 0 0) 24 Try.underlying24 infoM rfl .i64 .i64 L.length (by omega) (by omega)
  go_enter Try.func53, Try.ntmps53
  go_wp2
  clear hmk
  go_loopg [4] L.length (fun g s4 wr => ∃ (i : Nat) (V : Nat → Option Addr × Nat) (Z : Nat → Nat → Value), i + g = L.length ∧ s4 = .int .i64 i ∧ Hid (Ext w wr ∧ wr.rowIs w.heap.size 23 L.length (fun j => if j < i then .slice (V j).1 (nth L j).length (V j).2 else .slice none 0 0) ∧
    (∀ j, j < i → MatL wr (V j).1 (V j).2 (nth L j) (Z j) ∧ Dis (nth L j).length (Z j) ∧ ∀ g, LV (nth L j).length (Z j) g → w.heap.size ≤ g) ∧ ∀ j k, j < i → k < i → j ≠ k → ∀ g, LV (nth L j).length (Z j) g → ¬ LV (nth L k).length (Z k) g))
  case atStart => exact ⟨0, fun _ => (none, 0), fun _ _ => .slice none 0 0, by omega, rfl, Lib.hid ⟨Ext.alloc _ _, (World.rowIs_made w _ _ _).congr (fun j _ => by simp), fun j hj => absurd hj (by omega), fun j k hj => absurd hj (by omega)⟩⟩
  case round =>
    obtain ⟨i, V, Z, hi, rfl, HW⟩ := hrel
    by_cases hini : i < L.length
    · obtain ⟨gi, rfl⟩ : ∃ g', gk = g' + 1 := ⟨gk - 1, by omega⟩
      have hini' : (i : Int) < (L.length : Nat) := by omega
      obtain rfl := hA (by omega)
      have c1 := HW.out.1.cell (hrow i hini)
      have hri := hr i hini
      have HC := Lib.hid (toIntSS_any (R i) (rc i) (nth L i) wr ((hmat i hini).ext HW.out.1) (by omega) (fun j hj => by have := row_le_total hj; omega))
      clear hrow hmat hr hri
      go_wp2_with (go_at_call 52; refine HC.out.mono ?_; rintro e w1 ⟨Av, cv, Zv, rfl, hv, hvd, hvl, hx1⟩; have HV := Lib.hid (And.intro hv (And.intro hvd hvl)); have HX := Lib.hid hx1; clear hv hvd hvl hx1; have c2 := (HW.out.2.1.of_block (HX.out.block HW.out.2.1.lt)).cell hini; have c3 := (HW.out.2.1.of_block (HX.out.block HW.out.2.1.lt)).frozen i; rw [if_neg (by omega)] at c2)
      go_roundg gi
      case measure => omega
      case rel =>
        obtain ⟨hx, hrow, hold, hcr⟩ := HW.out
        have hx1 := HX.out
        obtain ⟨hv, hvd, hvl⟩ := HV.out
        have hb := hrow.of_block (hx1.block hrow.lt)
        have hkeep : ∀ {A' : Option Addr} {c' : Nat} {D' : List (List Int)} {Z : Nat → Value}, MatL w1 A' c' D' Z → MatL (w1.setCell ⟨w.heap.size, i, none⟩ (.slice Av (nth L i).length cv)) A' c' D' Z := fun hl => hl.keepR fun g cs t fz hg ht => Below.heap_setCell _ _ _ _ fun e => by
          have e : g = w.heap.size := e
          subst e
          obtain ⟨cs2, hb2, _⟩ := hb
          rw [hb2] at hg
          injection hg with hg; injection hg with _ hg
          rcases ht with h | h
          · rw [h] at hg; exact absurd hg (by decide)
          · rw [h] at hg; exact absurd hg (by decide)
        have hnew : ∀ g, LV (nth L i).length Zv g → wr.heap.size ≤ g := fun g ⟨p, hp, hg⟩ => hvl p hp g hg
        have hap : ∀ j, j < i → ∀ g, LV (nth L j).length (Z j) g → ¬ LV (nth L i).length Zv g := fun j hj g hg hg2 => by
          obtain ⟨p, hp, hgp⟩ := hg
          have q1 := (hold j hj).1.lt hp hgp
          have q2 := hnew g hg2
          omega
        refine ⟨i + 1, fun j => if j = i then (Av, cv) else V j, fun j => if j = i then Zv else Z j, by omega, by go_num, Lib.hid ⟨(hx.trans hx1).setCell' (Nat.le_refl _) _, (hb.set i _).congr (fun j _ => ?_), fun j hj => ?_, fun j k hj hk hne => ?_⟩⟩
        · by_cases e : j = i
          · subst e; simp
          · simp only [if_neg e]
            by_cases hlt : j < i
            · rw [if_pos hlt, if_pos (by omega)]
            · rw [if_neg hlt, if_neg (by omega)]
        · by_cases e : j = i
          · subst e; simp only [if_true]; exact ⟨hkeep hv, hvd, fun g hg => Nat.le_trans hx.size (hnew g hg)⟩
          · simp only [if_neg e]
            obtain ⟨hZ, hZd, hZl⟩ := hold j (by omega)
            exact ⟨hkeep (hZ.ext hx1), hZd, hZl⟩
        · by_cases e : j = i
          · subst e
            simp only [if_true, if_neg (fun e => hne (Eq.symm e) : ¬ k = j)]
            exact fun g hg hg2 => hap k (by omega) g hg2 hg
          · by_cases e2 : k = i
            · subst e2
              simp only [if_true, if_neg e]
              exact hap j (by omega)
            · simp only [if_neg e, if_neg e2]
              exact hcr j k (by omega) (by omega) hne
    · have hini' : ¬ (i : Int) < (L.length : Nat) := by omega
      clear hrow hmat hr
      go_wp2
      go_ret
      obtain ⟨hx, hrow, hold, hcr⟩ := HW.out
      have hiD : i = L.length := by omega
      subst hiD
      refine ⟨_, _, Z, rfl, ⟨Nat.le_refl _, by unfold maxLen; omega, w.heap.size, 0, fun _ => ⟨rfl, ?_⟩, fun j hj => ?_⟩, fun j k hj hk hne p hp q hq g hg hg2 => hcr j k hj hk hne g ⟨p, hp, hg⟩ ⟨q, hq, hg2⟩, fun g ⟨j, hj, hg⟩ => (hold j hj).2.2 g hg, hx⟩
      · obtain ⟨cs, hb, _⟩ := hrow
        exact ⟨cs, _, hb⟩
      · obtain ⟨hZ, hZd, -⟩ := hold j hj
        exact ⟨_, _, by rw [Nat.zero_add, hrow.cell hj, if_pos hj], hZ, hZd⟩
/-- a desk, its leaves Z and V -/
def DkV (W : World) (v : Value) (D : List (List Int)) (L : List (List (List Int))) (Z : Nat → Value) (V : Nat → Nat → Value) : Prop :=
  ∃ A c B d, v = .agg #[.slice A D.length c, .slice B L.length d] ∧ MatL W A c D Z ∧ Dis D.length Z ∧ MatSV W B d L V ∧ Cross L V ∧ ∀ g, LV D.length Z g → ¬ LS L V g
/-- its leaves' blocks -/
def LD (D : List (List Int)) (L : List (List (List Int))) (Z : Nat → Value) (V : Nat → Nat → Value) (g : Nat) : Prop := LV D.length Z g ∨ LS L V g
theorem DkV.desk {w : World} {v : Value} {D : List (List Int)} {L : List (List (List Int))} {Z : Nat → Value} {V : Nat → Nat → Value} (h : DkV w v D L Z V) : DeskM w v D L := by
  obtain ⟨A, c, B, d, e, h1, -, h2, -⟩ := h
  exact ⟨A, c, B, d, e, h1.mat, h2.mats⟩
theorem DkV.lt {w : World} {v : Value} {D : List (List Int)} {L : List (List (List Int))} {Z : Nat → Value} {V : Nat → Nat → Value} (h : DkV w v D L Z V) {g : Nat} (hg : LD D L Z V g) : g < w.heap.size := by
  obtain ⟨A, c, B, d, e, h1, -, h2, -⟩ := h
  rcases hg with ⟨i, hi, q⟩ | q
  · exact h1.lt hi q
  · exact h2.lt q
theorem DkV.keepT {w w' : World} {v : Value} {D : List (List Int)} {L : List (List (List Int))} {Z : Nat → Value} {V : Nat → Nat → Value} (h : DkV w v D L Z V) (k : KeepT w w') : DkV w' v D L Z V := by
  obtain ⟨A, c, B, d, e, h1, h2, h3, h4⟩ := h
  exact ⟨A, c, B, d, e, h1.keepT k, h2, h3.keepT k, h4⟩
theorem DkV.ext {w w' : World} {v : Value} {D : List (List Int)} {L : List (List (List Int))} {Z : Nat → Value} {V : Nat → Nat → Value} (h : DkV w v D L Z V) (k : Ext w w') : DkV w' v D L Z V := h.keepT (KeepT.of_ext k)
theorem OwnM.matL {b : Nat} {w : World} {u : Value} {D : List (List Int)} {V : Nat → Value} (h : OwnM b w u D V) : ∃ A c, u = .slice A D.length c ∧ MatL w A c D V := by
  obtain ⟨A, c, e, h1, h2, h3, h4, -⟩ := h.obj
  refine ⟨A, c, e, h1, h2, ?_⟩
  by_cases h0 : 0 < D.length
  · obtain ⟨g, cs, e1, -, e3, e4⟩ := h3 h0
    refine ⟨g, 0, fun _ => ⟨e1, cs, _, e3⟩, fun i hi => ⟨?_, h4 i hi⟩⟩
    rw [cell_cells e3, Nat.zero_add]
    exact e4 i hi
  · exact ⟨0, 0, fun q => absurd q h0, fun i hi => absurd hi (by omega)⟩
theorem OwnS.matsV {b : Nat} {w : World} {v : Value} {L : List (List (List Int))} {U : Nat → Value} {V : Nat → Nat → Value} (h : OwnS b w v L U V) : ∃ A c, v = .slice A L.length c ∧ MatSV w A c L V := by
  obtain ⟨A, c, e, h1, h2, h3⟩ := h.parts
  refine ⟨A, c, e, h1, h2, ?_⟩
  by_cases h0 : 0 < L.length
  · obtain ⟨g, e1, -, ⟨cs, e3⟩, e4⟩ := h3 h0
    refine ⟨g, 0, fun _ => ⟨e1, cs, _, e3⟩, fun i hi => ?_⟩
    obtain ⟨Ar, cr, q1, q2⟩ := (h.2.1 i hi).matL
    exact ⟨Ar, cr, by rw [Nat.zero_add, e4 i hi, q1], q2, (h.2.1 i hi).2.2.1⟩
  · exact ⟨0, 0, fun q => absurd q h0, fun i hi => absurd hi (by omega)⟩
theorem OwnDk.leaves {b : Nat} {w : World} {v : Value} {D : List (List Int)} {L : List (List (List Int))} (h : OwnDk b w v D L) : ∃ Z V, DkV w v D L Z V ∧ ∀ g, LD D L Z V g → b ≤ g := by
  obtain ⟨v1, v2, Z, U, V, rfl, h1, h2, h3⟩ := h
  obtain ⟨A, c, rfl, hM⟩ := h1.matL
  obtain ⟨B, d, rfl, hS⟩ := h2.matsV
  refine ⟨Z, V, ⟨A, c, B, d, rfl, hM, h1.2.2.1, hS, h2.2.2, fun g ⟨p, hp, hg⟩ ⟨j, hj, q, hq, hg2⟩ => h3 p hp j hj q hq g hg hg2⟩, fun g hg => ?_⟩
  rcases hg with ⟨i, hi, q⟩ | ⟨j, hj, i, hi, q⟩
  · exact h1.2.2.2 i hi g q
  · exact (h2.2.1 j hj).2.2.2 i hi g q
end Go.Proofs.Ytbkefojepelggaa
