/- What is proved: contracts and plain laws for what the later texts lean on (Sl, Sl2, Sl3). Conditions: those of each. -/
import Derived.Test.YtnalcgcdohlfiaaGreatDoorPd
import Derived.Test.YtnalcgcdohlfiaaGreatDoorDdl
namespace Go.Proofs.YtnalcgcdohlfiaaGreatDoor
open Go.RowKit
/-- slices of rows, their leaves V -/
def MatSV (w : World) (A : Option Addr) (c : Nat) (L : List (List (List Int))) (V : Nat → Nat → Value) : Prop :=
  L.length ≤ c ∧ c ≤ maxLen ∧ ∃ b o, (0 < L.length → A = some ⟨b, o, none⟩ ∧ ∃ cs fz, w.heap[b]? = some (.cells cs 23 fz)) ∧
    ∀ i, i < L.length → ∃ Ar cr, w.cell? ⟨b, o + i, none⟩ = some (.slice Ar (nth L i).length cr) ∧ MatL w Ar cr (nth L i) (V i) ∧ Dis (nth L i).length (V i)
/-- the leaves' blocks -/
def LS (L : List (List (List Int))) (V : Nat → Nat → Value) (g : Nat) : Prop := ∃ i, i < L.length ∧ LV (nth L i).length (V i) g
theorem MatSV.mats {w : World} {A : Option Addr} {c : Nat} {L : List (List (List Int))} {V : Nat → Nat → Value} (h : MatSV w A c L V) : MatS w A c L := by
  obtain ⟨h1, h2, b, o, hA, hc⟩ := h
  refine ⟨h1, h2, b, o, fun h0 => (hA h0).1, fun i hi => ?_⟩
  obtain ⟨Ar, cr, e, hM, -⟩ := hc i hi
  exact ⟨Ar, cr, e, hM.mat⟩
theorem MatSV.lt {w : World} {A : Option Addr} {c : Nat} {L : List (List (List Int))} {V : Nat → Nat → Value} (h : MatSV w A c L V) {g : Nat} (hg : LS L V g) : g < w.heap.size := by
  obtain ⟨h1, h2, b, o, hA, hc⟩ := h
  obtain ⟨i, hi, j, hj, q⟩ := hg
  obtain ⟨Ar, cr, e, hM, -⟩ := hc i hi
  exact hM.lt hj q
theorem MatSV.isI {w : World} {A : Option Addr} {c : Nat} {L : List (List (List Int))} {V : Nat → Nat → Value} (h : MatSV w A c L V) {g : Nat} (hg : LS L V g) : ∃ cs, w.heap[g]? = some (.cells cs 3 (0, 0)) := by
  obtain ⟨h1, h2, b, o, hA, hc⟩ := h
  obtain ⟨i, hi, q⟩ := hg
  obtain ⟨Ar, cr, e, hM, -⟩ := hc i hi
  exact hM.isI q
theorem MatSV.keepT {w w' : World} {A : Option Addr} {c : Nat} {L : List (List (List Int))} {V : Nat → Nat → Value} (h : MatSV w A c L V) (k : KeepT w w') : MatSV w' A c L V := by
  obtain ⟨h1, h2, b, o, hA, hc⟩ := h
  refine ⟨h1, h2, b, o, fun h0 => ?_, fun i hi => ?_⟩
  · obtain ⟨e, cs, fz, hb⟩ := hA h0
    exact ⟨e, cs, fz, (k b cs _ fz hb (.inr (.inr rfl))).trans hb⟩
  · obtain ⟨e, cs, fz, hb⟩ := hA (by omega)
    obtain ⟨Ar, cr, e2, hM, hD⟩ := hc i hi
    exact ⟨Ar, cr, by rw [← e2]; exact World.cell?_of_block (k b cs _ fz hb (.inr (.inr rfl))), hM.keepT k, hD⟩
theorem MatSV.only {S : Nat → Prop} {w w' : World} {A : Option Addr} {c : Nat} {L : List (List (List Int))} {V : Nat → Nat → Value} (h : MatSV w A c L V) (k : Only S w w') (hs : ∀ g, LS L V g → ¬ S g)
    (hI : ∀ g, S g → ∃ cs, w.heap[g]? = some (.cells cs 3 (0, 0))) : MatSV w' A c L V := by
  obtain ⟨h1, h2, b, o, hA, hc⟩ := h
  have hb : 0 < L.length → ¬ S b := fun h0 hS => by
    obtain ⟨_, cs, fz, hb⟩ := hA h0
    obtain ⟨cs', hb'⟩ := hI b hS
    rw [hb] at hb'
    injection hb' with hb'
    injection hb' with _ ht
    exact absurd ht (by decide)
  refine ⟨h1, h2, b, o, fun h0 => ?_, fun i hi => ?_⟩
  · obtain ⟨e, cs, fz, hbb⟩ := hA h0
    exact ⟨e, cs, fz, (k.2.2.2.2 b (hb h0)).trans hbb⟩
  · obtain ⟨Ar, cr, e, hM, hD⟩ := hc i hi
    refine ⟨Ar, cr, ?_, hM.only k (fun g hg => hs g ⟨i, hi, hg⟩) hI, hD⟩
    rw [World.cell?_of_block (w := w) (k.2.2.2.2 b (hb (by omega)))]
    exact e
/-- what a copy of slices of rows leaves -/
def FreshSV (w : World) (L : List (List (List Int))) (e : Ending) (w' : World) : Prop := ∃ A c V, e = .returned (.slice A L.length c) ∧ MatSV w' A c L V ∧ Cross L V ∧ (∀ g, LS L V g → w.heap.size ≤ g) ∧ Ext w w'
/-- a desk, its leaves Z and V -/
def DkV (W : World) (v : Value) (D : List (List Int)) (L : List (List (List Int))) (Z : Nat → Value) (V : Nat → Nat → Value) : Prop :=
  ∃ A c B d, v = .agg #[.slice A D.length c, .slice B L.length d] ∧ MatL W A c D Z ∧ Dis D.length Z ∧ MatSV W B d L V ∧ Cross L V ∧ ∀ g, LV D.length Z g → ¬ LS L V g
/-- its leaves' blocks -/
def LD (D : List (List Int)) (L : List (List (List Int))) (Z : Nat → Value) (V : Nat → Nat → Value) (g : Nat) : Prop := LV D.length Z g ∨ LS L V g
theorem DkV.desk {w : World} {v : Value} {D : List (List Int)} {L : List (List (List Int))} {Z : Nat → Value} {V : Nat → Nat → Value} (h : DkV w v D L Z V) : DeskM w v D L := by
  obtain ⟨A, c, B, d, e, h1, -, h2, -⟩ := h
  exact ⟨A, c, B, d, e, h1.mat, h2.mats⟩
theorem DkV.lt {w : World} {v : Value} {D : List (List Int)} {L : List (List (List Int))} {Z : Nat → Value} {V : Nat → Nat → Value} (h : DkV w v D L Z V) {g : Nat} (hg : LD D L Z V g) : g < w.heap.size := by
  obtain ⟨A, c, B, d, e, h1, -, h2, -⟩ := h
  rcases hg with ⟨i, hi, q⟩ | q
  · exact h1.lt hi q
  · exact h2.lt q
theorem DkV.keepT {w w' : World} {v : Value} {D : List (List Int)} {L : List (List (List Int))} {Z : Nat → Value} {V : Nat → Nat → Value} (h : DkV w v D L Z V) (k : KeepT w w') : DkV w' v D L Z V := by
  obtain ⟨A, c, B, d, e, h1, h2, h3, h4⟩ := h
  exact ⟨A, c, B, d, e, h1.keepT k, h2, h3.keepT k, h4⟩
theorem DkV.ext {w w' : World} {v : Value} {D : List (List Int)} {L : List (List (List Int))} {Z : Nat → Value} {V : Nat → Nat → Value} (h : DkV w v D L Z V) (k : Ext w w') : DkV w' v D L Z V := h.keepT (KeepT.of_ext k)
theorem OwnM.matL {b : Nat} {w : World} {u : Value} {D : List (List Int)} {V : Nat → Value} (h : OwnM b w u D V) : ∃ A c, u = .slice A D.length c ∧ MatL w A c D V := by
  obtain ⟨A, c, e, h1, h2, h3, h4, -⟩ := h.obj
  refine ⟨A, c, e, h1, h2, ?_⟩
  by_cases h0 : 0 < D.length
  · obtain ⟨g, cs, e1, -, e3, e4⟩ := h3 h0
    refine ⟨g, 0, fun _ => ⟨e1, cs, _, e3⟩, fun i hi => ⟨?_, h4 i hi⟩⟩
    rw [cell_cells e3, Nat.zero_add]
    exact e4 i hi
  · exact ⟨0, 0, fun q => absurd q h0, fun i hi => absurd hi (by omega)⟩
theorem OwnS.matsV {b : Nat} {w : World} {v : Value} {L : List (List (List Int))} {U : Nat → Value} {V : Nat → Nat → Value} (h : OwnS b w v L U V) : ∃ A c, v = .slice A L.length c ∧ MatSV w A c L V := by
  obtain ⟨A, c, e, h1, h2, h3⟩ := h.parts
  refine ⟨A, c, e, h1, h2, ?_⟩
  by_cases h0 : 0 < L.length
  · obtain ⟨g, e1, -, ⟨cs, e3⟩, e4⟩ := h3 h0
    refine ⟨g, 0, fun _ => ⟨e1, cs, _, e3⟩, fun i hi => ?_⟩
    obtain ⟨Ar, cr, q1, q2⟩ := (h.2.1 i hi).matL
    exact ⟨Ar, cr, by rw [Nat.zero_add, e4 i hi, q1], q2, (h.2.1 i hi).2.2.1⟩
  · exact ⟨0, 0, fun q => absurd q h0, fun i hi => absurd hi (by omega)⟩
theorem OwnDk.leaves {b : Nat} {w : World} {v : Value} {D : List (List Int)} {L : List (List (List Int))} (h : OwnDk b w v D L) : ∃ Z V, DkV w v D L Z V ∧ ∀ g, LD D L Z V g → b ≤ g := by
  obtain ⟨v1, v2, Z, U, V, rfl, h1, h2, h3⟩ := h
  obtain ⟨A, c, rfl, hM⟩ := h1.matL
  obtain ⟨B, d, rfl, hS⟩ := h2.matsV
  refine ⟨Z, V, ⟨A, c, B, d, rfl, hM, h1.2.2.1, hS, h2.2.2, fun g ⟨p, hp, hg⟩ ⟨j, hj, q, hq, hg2⟩ => h3 p hp j hj q hq g hg hg2⟩, fun g hg => ?_⟩
  rcases hg with ⟨i, hi, q⟩ | ⟨j, hj, i, hi, q⟩
  · exact h1.2.2.2 i hi g q
  · exact (h2.2.1 j hj).2.2.2 i hi g q
end Go.Proofs.YtnalcgcdohlfiaaGreatDoor
namespace Go.Proofs.YtnalcgcdohlfiaaGreatDoor
open Go.RowKit
/-- what a copy of a desk leaves -/
def FreshDV (w : World) (D : List (List Int)) (L : List (List (List Int))) (e : Ending) (w' : World) : Prop :=
  ∃ v Z V, e = .returned v ∧ DkV w' v D L Z V ∧ (∀ g, LD D L Z V g → w.heap.size ≤ g) ∧ Ext w w'
/-- all numbers of slices of rows -/
def preS (L : List (List (List Int))) : Nat → Nat
  | 0 => 0
  | i + 1 => preS L i + total (nth L i)
theorem preS_le (L : List (List (List Int))) : ∀ i j, i ≤ j → preS L i ≤ preS L j := by
  intro i j
  induction j with
  | zero => intro h; obtain rfl : i = 0 := by omega
            exact Nat.le_refl _
  | succ j ih =>
    intro h
    by_cases e : i = j + 1
    · subst e; exact Nat.le_refl _
    · have := ih (by omega)
      show preS L i ≤ preS L j + total (nth L j)
      omega
theorem szSR_tot (L : List (List (List Int))) : ∀ g i l, 0 ≤ szSR L g i l → ((preS L (i + g) : Nat) : Int) ≤ preS L i + l := by
  intro g
  induction g with
  | zero => intro i l h; have h : 0 ≤ l := h; rw [Nat.add_zero]; omega
  | succ g ih =>
    intro i l h
    unfold szSR at h
    split at h
    · omega
    · rename_i hz
      obtain ⟨h1, h2⟩ := szM_spec (D := nth L i) (l := l) (by omega)
      have := ih (i + 1) _ h
      rw [show i + (g + 1) = i + 1 + g by omega]
      have e : preS L (i + 1) = preS L i + total (nth L i) := rfl
      omega
def mixS (L : List (List (List Int))) (k : Int) (i : Nat) : List (List (List Int)) := (List.range L.length).map fun j => if j < i then markM (nth L j) (k + preS L j) else nth L j
def markS (L : List (List (List Int))) (k : Int) : List (List (List Int)) := mixS L k L.length
theorem mixS_len (L : List (List (List Int))) (k : Int) (i : Nat) : (mixS L k i).length = L.length := by simp [mixS]
theorem nth_mixS {L : List (List (List Int))} {k : Int} {i j : Nat} (h : j < L.length) : nth (mixS L k i) j = if j < i then markM (nth L j) (k + preS L j) else nth L j := by
  rw [nth_of (by rw [mixS_len]; exact h)]; simp [mixS]
theorem markM_len (D : List (List Int)) (k : Int) : (markM D k).length = D.length := mixM_len _ _ _
theorem nth_mixS_len {L : List (List (List Int))} {k : Int} {i j : Nat} (h : j < L.length) : (nth (mixS L k i) j).length = (nth L j).length := by
  rw [nth_mixS h]; split
  · exact markM_len _ _
  · rfl
theorem LS_mix {L : List (List (List Int))} {k : Int} {i : Nat} {V : Nat → Nat → Value} {g : Nat} : LS (mixS L k i) V g ↔ LS L V g := by
  unfold LS
  rw [mixS_len]
  exact exists_congr fun j => and_congr_right fun hj => by rw [nth_mixS_len hj]
theorem MatSV.mix0 {w : World} {A : Option Addr} {c : Nat} {L : List (List (List Int))} {k : Int} {V : Nat → Nat → Value} (h : MatSV w A c L V) : MatSV w A c (mixS L k 0) V := by
  have e : mixS L k 0 = L := ext_nth (mixS_len _ _ _) fun i hi => by rw [mixS_len] at hi; rw [nth_mixS hi, if_neg (by omega)]
  rw [e]; exact h
end Go.Proofs.YtnalcgcdohlfiaaGreatDoor
namespace Go.Proofs.YtnalcgcdohlfiaaGreatDoor
open Go.RowKit
end Go.Proofs.YtnalcgcdohlfiaaGreatDoor
