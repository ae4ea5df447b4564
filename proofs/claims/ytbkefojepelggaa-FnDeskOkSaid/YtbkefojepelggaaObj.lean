/- What is proved: words for rows of one's own that are turned in place while a reader reads on. No condition. -/
import Derived.Test.YtbkefojepelggaaRd2
namespace Go.Proofs.Ytbkefojepelggaa
open Go.RowKit

/-- nothing that was there has turned but the block g -/
def ExtG (g : Nat) (w w' : World) : Prop := w'.os = w.os ∧ w'.tape = w.tape ∧ w'.output = w.output ∧ w.heap.size ≤ w'.heap.size ∧ ∀ k, k < w.heap.size → k ≠ g → w'.heap[k]? = w.heap[k]?
theorem ExtG.refl (g : Nat) (w : World) : ExtG g w w := ⟨rfl, rfl, rfl, Nat.le_refl _, fun _ _ _ => rfl⟩
theorem ExtG.trans {g : Nat} {a b c : World} (h : ExtG g a b) (k : ExtG g b c) : ExtG g a c :=
  ⟨k.1.trans h.1, k.2.1.trans h.2.1, k.2.2.1.trans h.2.2.1, Nat.le_trans h.2.2.2.1 k.2.2.2.1, fun i hi hne => (k.2.2.2.2 i (Nat.lt_of_lt_of_le hi h.2.2.2.1) hne).trans (h.2.2.2.2 i hi hne)⟩
theorem ExtG.size {g : Nat} {a b : World} (h : ExtG g a b) : a.heap.size ≤ b.heap.size := h.2.2.2.1
theorem Ext.toG {a b : World} (h : Ext a b) (g : Nat) : ExtG g a b := ⟨Below.os h, Below.tape h, Below.output h, h.size, fun i hi _ => Below.block h i hi⟩
theorem below_toG {B : Nat} {a b : World} (h : Below B a b) (g : Nat) {a0 : World} (k : ExtG g a0 a) (hB : a0.heap.size ≤ B) : ExtG g a0 b :=
  ⟨h.os.trans k.1, h.tape.trans k.2.1, h.output.trans k.2.2.1, Nat.le_trans k.size h.size, fun i hi hne => (h.block i (by omega)).trans (k.2.2.2.2 i hi hne)⟩
theorem Only.toG {g : Nat} {a b : World} (h : Only (fun k => k = g) a b) : ExtG g a b := ⟨h.1, h.2.1, h.2.2.1, Nat.le_of_eq h.2.2.2.1.symm, fun i _ hne => h.2.2.2.2 i hne⟩
theorem ExtG.ext {g : Nat} {w0 a b : World} (h : ExtG g a b) (k : Ext w0 a) (hg : w0.heap.size ≤ g) : Ext w0 b :=
  ⟨h.1.trans (Below.os k), h.2.1.trans (Below.tape k), h.2.2.1.trans (Below.output k), Nat.le_trans k.size h.size, fun i hi => (h.2.2.2.2 i (by have := k.size; omega) (by omega)).trans (Below.block k i hi)⟩
theorem ExtG.set {g : Nat} {a b : World} (h : ExtG g a b) {p : Addr} (hp : a.heap.size ≤ p.block) (u : Value) : ExtG g a (b.setCell p u) :=
  ⟨h.1, h.2.1, h.2.2.1, by have := h.size; simpa [World.setCell] using this, fun i hi hne => (Below.heap_setCell _ _ _ _ (by omega)).trans (h.2.2.2.2 i hi hne)⟩
theorem ExtG.drewN {g : Nat} {a b : World} (h : ExtG g a b) (m : Nat) : ExtG g a (b.drewN m) := h
theorem ExtG.alloc {g : Nat} {a b : World} (h : ExtG g a b) (o : Obj) : ExtG g a (b.alloc o) := h.trans ((Ext.alloc b o).toG g)
theorem ExtG.on {g : Nat} {a b c : World} (h : ExtG g a b) (k : Ext b c) : ExtG g a c := h.trans (k.toG g)
theorem ExtG.rd {g : Nat} {a b c : World} (h : ExtG g a b) (k : Only (fun x => x = g) b c) : ExtG g a c := h.trans k.toG

/-- rows that a call has made for itself, all in blocks from base on, to be turned in place -/
def ObjM (base : Nat) (w : World) (A : Option Addr) (c : Nat) (D : List (List Int)) (V : Nat → Value) : Prop :=
  D.length ≤ c ∧ c ≤ maxLen ∧ (0 < D.length → ∃ b cs, A = some ⟨b, 0, none⟩ ∧ base ≤ b ∧ w.heap[b]? = some (.cells cs 31 (0, 0)) ∧ ∀ i, i < D.length → cs[i]? = some (V i)) ∧
    (∀ i, i < D.length → Leaf w (V i) (row D i)) ∧ Dis D.length V ∧ (∀ i, i < D.length → ∀ g ∈ lb (V i), base ≤ g)
theorem ObjM.keep {base : Nat} {w w' : World} {A : Option Addr} {c : Nat} {D : List (List Int)} {V : Nat → Value} (h : ObjM base w A c D V) (k : ∀ q, base ≤ q → q < w.heap.size → w'.heap[q]? = w.heap[q]?) : ObjM base w' A c D V := by
  obtain ⟨h1, h2, h3, h4, h5, h6⟩ := h
  refine ⟨h1, h2, fun h0 => ?_, fun i hi => (h4 i hi).keep fun g hg => k g (h6 i hi g hg) ((h4 i hi).lt hg), h5, h6⟩
  obtain ⟨b, cs, e, hb, hh, hc⟩ := h3 h0
  exact ⟨b, cs, e, hb, (k b hb (heap_lt hh)).trans hh, hc⟩
theorem ObjM.ext {base : Nat} {w w' : World} {A : Option Addr} {c : Nat} {D : List (List Int)} {V : Nat → Value} (h : ObjM base w A c D V) (k : Ext w w') : ObjM base w' A c D V :=
  h.keep fun _ _ hq => k.block hq
theorem ObjM.g {base : Nat} {w w' : World} {A : Option Addr} {c : Nat} {D : List (List Int)} {V : Nat → Value} {g : Nat} (h : ObjM base w A c D V) (k : ExtG g w w') (hg : g < base) : ObjM base w' A c D V :=
  h.keep fun q hb hq => k.2.2.2.2 q hq (by omega)
theorem ObjM.rd {base : Nat} {w w' : World} {A : Option Addr} {c : Nat} {D : List (List Int)} {V : Nat → Value} {g : Nat} (h : ObjM base w A c D V) (k : Only (fun x => x = g) w w') (hg : g < base) : ObjM base w' A c D V :=
  h.g k.toG hg
theorem ObjM.mono {base b' : Nat} {w : World} {A : Option Addr} {c : Nat} {D : List (List Int)} {V : Nat → Value} (h : ObjM base w A c D V) (k : b' ≤ base) : ObjM b' w A c D V := by
  obtain ⟨h1, h2, h3, h4, h5, h6⟩ := h
  refine ⟨h1, h2, fun h0 => ?_, h4, h5, fun i hi g hg => by have := h6 i hi g hg; omega⟩
  obtain ⟨b, cs, e, hb, hh⟩ := h3 h0
  exact ⟨b, cs, e, by omega, hh⟩
theorem ObjM.mat {base : Nat} {w : World} {A : Option Addr} {c : Nat} {D : List (List Int)} {V : Nat → Value} (h : ObjM base w A c D V) : Mat w A c D := by
  obtain ⟨h1, h2, h3, h4, h5, h6⟩ := h
  by_cases h0 : 0 < D.length
  · obtain ⟨b, cs, e, hb, hh, hc⟩ := h3 h0
    refine ⟨h1, h2, b, 0, fun _ => e, fun i hi => ?_⟩
    obtain ⟨Ar, cr, hv, hI⟩ := (h4 i hi).ints
    exact ⟨Ar, cr, by rw [Nat.zero_add, cell_cells hh, hc i hi, hv], hI⟩
  · exact ⟨h1, h2, 0, 0, fun h => absurd h h0, fun i hi => absurd hi (by omega)⟩
theorem ObjM.nil (base : Nat) (w : World) (A : Option Addr) (c : Nat) (hc : c ≤ maxLen) (V : Nat → Value) : ObjM base w A c [] V :=
  ⟨Nat.zero_le _, hc, fun h => absurd h (by simp), fun i hi => absurd hi (by simp), fun i j hi => absurd hi (by simp), fun i hi => absurd hi (by simp)⟩
theorem AccM.obj {w0 W : World} {v : Value} {D : List (List Int)} {V : Nat → Value} (h : AccM w0 W v D V) : ∃ A c, v = .slice A D.length c ∧ ObjM w0.heap.size W A c D V := by
  obtain ⟨⟨hx, hl, ho⟩, h2, h3, h4⟩ := h
  rcases ho with ⟨rfl, h0⟩ | ⟨g, cap, cur, rfl, hb, hg, hc, hm, hs, ht⟩
  · have : D.length = 0 := by simpa using h0
    have : D = [] := List.eq_nil_of_length_eq_zero this
    subst this
    exact ⟨none, 0, rfl, ObjM.nil _ _ _ _ (Nat.zero_le _) _⟩
  · simp only [List.length_map, List.length_range, Nat.mul_one] at hc ht
    refine ⟨some ⟨g, 0, none⟩, cap, by simp, hc, hm, fun _ => ⟨g, cur, rfl, hb, hg, fun i hi => ?_⟩, h2, h3, h4⟩
    have e : (cur.toList.take D.length)[i]? = ((List.range D.length).map V)[i]? := by rw [ht]
    rw [List.getElem?_take, if_pos hi] at e
    rw [← Array.getElem?_toList, e]
    simp [hi]
theorem ObjM.head {base : Nat} {w : World} {A : Option Addr} {c : Nat} {D : List (List Int)} {V : Nat → Value} (h : ObjM base w A c D V) (h0 : 0 < D.length) : ∃ b, A = some ⟨b, 0, none⟩ := by
  obtain ⟨b, cs, e, _⟩ := h.2.2.1 h0
  exact ⟨b, e⟩
/-- row i of D turned -/
theorem row_set {D : List (List Int)} {i k : Nat} {r : List Int} (hi : i < D.length) : row (D.set i r) k = if k = i then r else row D k := by
  unfold row
  by_cases e : k = i
  · subst e; simp [List.getD, hi]
  · rw [if_neg e]; simp [List.getD, Ne.symm e]
theorem ix_set {xs : List Int} {j k : Nat} {x : Int} (hj : j < xs.length) : ix (xs.set j x) k = if k = j then x else ix xs k := by
  unfold ix
  by_cases e : k = j
  · subst e; simp [List.getD, hj]
  · rw [if_neg e]; simp [List.getD, Ne.symm e]
/-- one number turned -/
def set2 (D : List (List Int)) (i j : Nat) (x : Int) : List (List Int) := D.set i ((row D i).set j x)
theorem set2_len (D : List (List Int)) (i j : Nat) (x : Int) : (set2 D i j x).length = D.length := by simp [set2]
theorem set2_row {D : List (List Int)} {i j : Nat} (hi : i < D.length) (x : Int) (k : Nat) : (row (set2 D i j x) k).length = (row D k).length := by
  unfold set2
  rw [row_set hi]
  split
  · rename_i e; subst e; simp
  · rfl
theorem set2_at {D : List (List Int)} {i j : Nat} (hi : i < D.length) (hj : j < (row D i).length) (x : Int) (k l : Nat) : at2 (set2 D i j x) k l = if k = i ∧ l = j then x else at2 D k l := by
  unfold at2 set2
  rw [row_set hi]
  by_cases e : k = i
  · subst e
    rw [if_pos rfl, ix_set hj]
    by_cases e2 : l = j
    · simp [e2]
    · simp [e2]
  · simp [e]
theorem Sq.set2 {D : List (List Int)} {i j : Nat} (h : Sq D) (hi : i < D.length) (x : Int) : Sq (set2 D i j x) := fun k hk => by
  rw [set2_len] at hk ⊢
  rw [set2_row hi]
  exact h k hk
/-- all numbers lie between a and b -/
def Bd (a b : Int) (D : List (List Int)) : Prop := ∀ i, i < D.length → ∀ j, j < (row D i).length → a ≤ at2 D i j ∧ at2 D i j ≤ b
theorem Bd.set2 {a b : Int} {D : List (List Int)} {i j : Nat} (h : Bd a b D) (hi : i < D.length) (hj : j < (row D i).length) {x : Int} (h0 : a ≤ x) (h1 : x ≤ b) : Bd a b (set2 D i j x) := fun k hk l hl => by
  rw [set2_len] at hk
  rw [set2_row hi] at hl
  rw [set2_at hi hj]
  split
  · exact ⟨h0, h1⟩
  · exact h k hk l hl
theorem Bd.mono {a b a' b' : Int} {D : List (List Int)} (h : Bd a b D) (ha : a' ≤ a) (hb : b ≤ b') : Bd a' b' D := fun k hk l hl => by
  have := h k hk l hl; omega

theorem ObjM.row {base b : Nat} {w : World} {c : Nat} {D : List (List Int)} {V : Nat → Value} (h : ObjM base w (some ⟨b, 0, none⟩) c D V) {i : Nat} (hi : i < D.length) :
    ∃ Ar cr, V i = .slice Ar (row D i).length cr ∧ w.cell? ⟨b, i, none⟩ = some (.slice Ar (row D i).length cr) ∧ w.frozen? ⟨b, i, none⟩ = false ∧ base ≤ b ∧ b < w.heap.size ∧ (row D i).length ≤ cr ∧ cr ≤ maxLen := by
  obtain ⟨h1, h2, h3, h4, h5, h6⟩ := h
  obtain ⟨b', cs, e, hb, hh, hc⟩ := h3 (by omega)
  injection e with e; injection e with e; subst e
  obtain ⟨Ar, cr, hv, hI⟩ := (h4 i hi).ints
  exact ⟨Ar, cr, hv, by rw [cell_cells hh, hc i hi, hv], frozen_cells hh i, hb, heap_lt hh, hI.1, hI.2.1⟩
theorem Leaf.put {w : World} {q cr j : Nat} {xs : List Int} {x : Int} (h : Leaf w (.slice (some ⟨q, 0, none⟩) xs.length cr) xs) (hj : j < xs.length) :
    Leaf (w.setCell ⟨q, j, none⟩ (.int .i64 x)) (.slice (some ⟨q, 0, none⟩) xs.length cr) (xs.set j x) := by
  obtain ⟨A, c', e, h1, h2, h3⟩ := h
  injection e with e1 e2 e3
  subst e1; subst e3
  obtain ⟨g', cs, ea, hb, hc⟩ := h3 (by omega)
  injection ea with ea; injection ea with ea; subst ea
  refine ⟨_, _, by rw [List.length_set], by rw [List.length_set]; exact h1, h2, fun _ => ⟨q, cs.setIfInBounds j (.int .i64 x), rfl, ?_, fun k hk => ?_⟩⟩
  · simp [World.setCell, Array.getElem?_modify, hb]
  · rw [List.length_set] at hk
    have hsz : j < cs.size := (Array.getElem?_eq_some_iff.1 (hc j hj)).1
    rw [ix_set hj, Array.getElem?_setIfInBounds]
    by_cases e : j = k
    · subst e; simp [hsz]
    · rw [if_neg e, if_neg (Ne.symm e), hc k hk]
theorem ObjM.num {base b : Nat} {w : World} {c : Nat} {D : List (List Int)} {V : Nat → Value} (h : ObjM base w (some ⟨b, 0, none⟩) c D V) {i j : Nat} (hi : i < D.length) (hj : j < (Go.Proofs.Ytbkefojepelggaa.row D i).length) :
    ∃ q cr, w.cell? ⟨b, i, none⟩ = some (.slice (some ⟨q, 0, none⟩) (Go.Proofs.Ytbkefojepelggaa.row D i).length cr) ∧ (Go.Proofs.Ytbkefojepelggaa.row D i).length ≤ cr ∧ cr ≤ maxLen ∧ w.cell? ⟨q, j, none⟩ = some (.int .i64 (at2 D i j)) ∧ w.frozen? ⟨q, j, none⟩ = false ∧ base ≤ q ∧ q < w.heap.size ∧
      ∀ x, ObjM base (w.setCell ⟨q, j, none⟩ (.int .i64 x)) (some ⟨b, 0, none⟩) c (set2 D i j x) V := by
  have hrow := h.row hi
  obtain ⟨h1, h2, h3, h4, h5, h6⟩ := h
  obtain ⟨b', cs, e, hb, hh, hc⟩ := h3 (by omega)
  injection e with e; injection e with e; subst e
  obtain ⟨Ar, cr, hv, hcell, -, -, -, hl1, hl2⟩ := hrow
  obtain ⟨A', c', e, k1, k2, k3⟩ := h4 i hi
  obtain ⟨q, cs2, rfl, hq, hcs⟩ := k3 (by omega)
  rw [hv] at e
  injection e with e1 e2 e3
  subst e1; subst e3
  have hlb : q ∈ lb (V i) := by
    rw [hv]
    obtain ⟨n, hn⟩ : ∃ n, (Go.Proofs.Ytbkefojepelggaa.row D i).length = n + 1 := ⟨(Go.Proofs.Ytbkefojepelggaa.row D i).length - 1, by omega⟩
    rw [hn]; simp [lb]
  have hbq : b ≠ q := fun e => by
    subst e
    rw [hh] at hq
    injection hq with hq; injection hq with _ ht
    exact absurd ht (by decide)
  refine ⟨q, _, hcell, hl1, hl2, by rw [cell_cells hq, hcs j hj]; rfl, frozen_cells hq j, h6 i hi q hlb, heap_lt hq, fun x => ?_⟩
  refine ⟨by rw [set2_len]; exact h1, h2, fun _ => ⟨b, cs, rfl, hb, (Below.heap_setCell _ _ _ _ hbq).trans hh, fun k hk => hc k (by rw [set2_len] at hk; exact hk)⟩, fun k hk => ?_, by rw [set2_len]; exact h5, fun k hk => h6 k (by rw [set2_len] at hk; exact hk)⟩
  rw [set2_len] at hk
  unfold set2
  rw [row_set hi]
  by_cases e : k = i
  · subst e
    rw [if_pos rfl, hv]
    have hL := h4 k hi
    rw [hv] at hL
    exact hL.put hj
  · rw [if_neg e]
    exact (h4 k hk).keep fun g hg => Below.heap_setCell _ _ _ _ fun e2 => by
      have e3 : g = q := e2
      subst e3
      exact h5 k i hk hi e g hg hlb

/-- the world cut off above base -/
def cutW (w : World) (base : Nat) : World := { w with heap := w.heap.extract 0 base }
theorem cut_size {w : World} {base : Nat} (h : base ≤ w.heap.size) : (cutW w base).heap.size = base := by simp [cutW]; omega
theorem cut_ext {w : World} {base : Nat} (h : base ≤ w.heap.size) : Ext (cutW w base) w :=
  ⟨rfl, rfl, rfl, by rw [cut_size h]; exact h, fun k hk => by
    rw [cut_size h] at hk
    simp only [cutW, Array.getElem?_extract]
    rw [if_pos (by omega)]
    simp⟩
theorem ExtG.cut {g base : Nat} {a b c : World} (h : ExtG g a b) (k : Ext (cutW b base) c) (hb : base ≤ b.heap.size) (ha : a.heap.size ≤ base) : ExtG g a c := by
  refine ⟨(Below.os k).trans h.1, (Below.tape k).trans h.2.1, (Below.output k).trans h.2.2.1, ?_, fun i hi hne => ?_⟩
  · have := k.size; rw [cut_size hb] at this; omega
  · have h1 := Below.block k i (by rw [cut_size hb]; omega)
    have h2 := (Below.block (cut_ext hb) i (by rw [cut_size hb]; omega))
    exact (h1.trans h2.symm).trans (h.2.2.2.2 i hi hne)
theorem RdU.cut {B g : Nat} {u : Int} {base : Nat} {b c : World} (h : RdU b B g u) (k : Ext (cutW b base) c) (hb : base ≤ b.heap.size) (hB : B ≤ base) : RdU c B g u :=
  h.keep fun i hi => ((Below.block k i (by rw [cut_size hb]; omega)).trans (Below.block (cut_ext hb) i (by rw [cut_size hb]; omega)).symm)
theorem RdU.ext {B g : Nat} {u : Int} {b c : World} (h : RdU b B g u) (k : Ext b c) (hB : B ≤ b.heap.size) : RdU c B g u :=
  h.keep fun i hi => Below.block k i (by omega)
theorem RdU.set {B g : Nat} {u : Int} {b : World} (h : RdU b B g u) {p : Addr} (hp : B ≤ p.block) (x : Value) : RdU (b.setCell p x) B g u :=
  h.keep fun i hi => Below.heap_setCell _ _ _ _ (by omega)
/-- an accumulated slice with its own beginning: rebased after the reader has turned -/
theorem Acc.rebase {w0 W W' : World} {E : TypeId} {v : Value} {xs : List Value} (h : Acc w0 W E v xs) (k : ∀ q, w0.heap.size ≤ q → q < W.heap.size → W'.heap[q]? = W.heap[q]?) (hs : w0.heap.size ≤ W'.heap.size) : Acc (cutW W' w0.heap.size) W' E v xs := by
  obtain ⟨h1, h2, h3⟩ := h
  refine ⟨cut_ext hs, h2, ?_⟩
  rw [cut_size hs]
  rcases h3 with h3 | ⟨g, cap, cur, e1, e2, e3, e4⟩
  · exact .inl h3
  · exact .inr ⟨g, cap, cur, e1, e2, (k g e2 (heap_lt e3)).trans e3, e4⟩
/-- a square of one's own laid open -/
theorem ObjM.sq {base b : Nat} {w : World} {c : Nat} {D : List (List Int)} {V : Nat → Value} (h : ObjM base w (some ⟨b, 0, none⟩) c D V) (hs : Sq D) :
    ∃ q cr : Nat → Nat, ∀ i, i < D.length → w.cell? ⟨b, i, none⟩ = some (.slice (some ⟨q i, 0, none⟩) D.length (cr i)) ∧ D.length ≤ cr i ∧ cr i ≤ maxLen ∧ base ≤ q i ∧
      ∀ j, j < D.length → w.cell? ⟨q i, j, none⟩ = some (.int .i64 (at2 D i j)) ∧ w.frozen? ⟨q i, j, none⟩ = false ∧ ∀ x, ObjM base (w.setCell ⟨q i, j, none⟩ (.int .i64 x)) (some ⟨b, 0, none⟩) c (set2 D i j x) V := by
  have h' : ∀ i, i < D.length → ∃ y : Nat × Nat, w.cell? ⟨b, i, none⟩ = some (.slice (some ⟨y.1, 0, none⟩) D.length y.2) ∧ D.length ≤ y.2 ∧ y.2 ≤ maxLen ∧ base ≤ y.1 ∧
      ∀ j, j < D.length → w.cell? ⟨y.1, j, none⟩ = some (.int .i64 (at2 D i j)) ∧ w.frozen? ⟨y.1, j, none⟩ = false ∧ ∀ x, ObjM base (w.setCell ⟨y.1, j, none⟩ (.int .i64 x)) (some ⟨b, 0, none⟩) c (set2 D i j x) V := by
    intro i hi
    have hr := hs i hi
    obtain ⟨q, cr, k1, k2, k3, _, _, k4, _, _⟩ := h.num hi (j := 0) (by omega)
    rw [hr] at k1 k2
    refine ⟨(q, cr), k1, k2, k3, k4, fun j hj => ?_⟩
    obtain ⟨q2, cr2, m1, _, _, m4, m5, _, _, m6⟩ := h.num hi (j := j) (by omega)
    rw [hr] at m1
    have e := k1.symm.trans m1
    injection e with e; injection e with e1 e2 e3; injection e1 with e1; injection e1 with e1
    subst e1
    exact ⟨m4, m5, m6⟩
  obtain ⟨f, hf⟩ := pick h'
  exact ⟨fun i => (f i).1, fun i => (f i).2, hf⟩
/-- a store keeps a block's kind and size -/
theorem set_size {w : World} {q : Nat} {cs : Array Value} {t : TypeId} {fz : Nat × Nat} (h : w.heap[q]? = some (.cells cs t fz)) (b j : Nat) (x : Value) : ∃ cs', (w.setCell ⟨b, j, none⟩ x).heap[q]? = some (.cells cs' t fz) ∧ cs'.size = cs.size := by
  by_cases e : b = q
  · subst e
    refine ⟨cs.setIfInBounds j x, ?_, by simp⟩
    simp [World.setCell, Array.getElem?_modify, h]
  · exact ⟨cs, (Below.heap_setCell _ _ _ _ (Ne.symm e)).trans h, rfl⟩
/-- a row of n numbers that fills its block -/
def FullV (w : World) (u : Value) (n : Nat) : Prop := ∃ q cs, u = .slice (some ⟨q, 0, none⟩) n n ∧ w.heap[q]? = some (.cells cs 3 (0, 0)) ∧ cs.size = n
theorem FullV.set {w : World} {u : Value} {n : Nat} (h : FullV w u n) (b j : Nat) (x : Value) : FullV (w.setCell ⟨b, j, none⟩ x) u n := by
  obtain ⟨q, cs, e, hb, hn⟩ := h
  obtain ⟨cs', hb', hn'⟩ := set_size hb b j x
  exact ⟨q, cs', e, hb', by omega⟩
theorem FullV.keep {base : Nat} {w w' : World} {u : Value} {n : Nat} (h : FullV w u n) (hu : ∀ q, u.ownBlock = some q → base ≤ q) (k : ∀ q, base ≤ q → q < w.heap.size → w'.heap[q]? = w.heap[q]?) : FullV w' u n := by
  obtain ⟨q, cs, rfl, hb, hn⟩ := h
  exact ⟨q, cs, rfl, (k q (hu q rfl) (heap_lt hb)).trans hb, hn⟩
/-- rows of one's own, n numbers each, each filling its block -/
def ObjF (base : Nat) (w : World) (A : Option Addr) (c n : Nat) (D : List (List Int)) (V : Nat → Value) : Prop :=
  ObjM base w A c D V ∧ Sq D ∧ D.length = n ∧ (∀ i, i < n → FullV w (V i) n)
theorem ObjF.own {base : Nat} {w : World} {A : Option Addr} {c n : Nat} {D : List (List Int)} {V : Nat → Value} (h : ObjF base w A c n D V) {i : Nat} (hi : i < n) : ∀ q, (V i).ownBlock = some q → base ≤ q := by
  obtain ⟨q, cs, e, _⟩ := h.2.2.2 i hi
  intro q' hq'
  rw [e] at hq'
  simp [Value.ownBlock] at hq'
  subst hq'
  refine h.1.2.2.2.2.2 i (by rw [h.2.2.1]; exact hi) q ?_
  rw [e]
  obtain ⟨m, rfl⟩ : ∃ m, n = m + 1 := ⟨n - 1, by omega⟩
  simp [lb]
theorem ObjF.keep {base : Nat} {w w' : World} {A : Option Addr} {c n : Nat} {D : List (List Int)} {V : Nat → Value} (h : ObjF base w A c n D V) (k : ∀ q, base ≤ q → q < w.heap.size → w'.heap[q]? = w.heap[q]?) : ObjF base w' A c n D V :=
  ⟨h.1.keep k, h.2.1, h.2.2.1, fun i hi => (h.2.2.2 i hi).keep (h.own hi) k⟩
theorem ObjF.rd {base : Nat} {w w' : World} {A : Option Addr} {c n : Nat} {D : List (List Int)} {V : Nat → Value} {g : Nat} (h : ObjF base w A c n D V) (k : Only (fun x => x = g) w w') (hg : g < base) : ObjF base w' A c n D V :=
  h.keep fun q hb hq => k.2.2.2.2 q (by omega)
theorem ObjF.ext {base : Nat} {w w' : World} {A : Option Addr} {c n : Nat} {D : List (List Int)} {V : Nat → Value} (h : ObjF base w A c n D V) (k : Ext w w') : ObjF base w' A c n D V :=
  h.keep fun _ _ hq => k.block hq
theorem ObjF.head {base : Nat} {w : World} {A : Option Addr} {c n : Nat} {D : List (List Int)} {V : Nat → Value} (h : ObjF base w A c n D V) (h0 : 0 < n) : ∃ b, A = some ⟨b, 0, none⟩ := h.1.head (by rw [h.2.2.1]; exact h0)
theorem ObjF.sq {base b : Nat} {w : World} {c n : Nat} {D : List (List Int)} {V : Nat → Value} (h : ObjF base w (some ⟨b, 0, none⟩) c n D V) :
    ∃ q cr : Nat → Nat, ∀ i, i < n → w.cell? ⟨b, i, none⟩ = some (.slice (some ⟨q i, 0, none⟩) n (cr i)) ∧ n ≤ cr i ∧ cr i ≤ maxLen ∧ base ≤ q i ∧
      ∀ j, j < n → w.cell? ⟨q i, j, none⟩ = some (.int .i64 (at2 D i j)) ∧ w.frozen? ⟨q i, j, none⟩ = false ∧ ∀ x, ObjF base (w.setCell ⟨q i, j, none⟩ (.int .i64 x)) (some ⟨b, 0, none⟩) c n (set2 D i j x) V := by
  obtain ⟨h1, h2, rfl, h4⟩ := h
  obtain ⟨q, cr, hq⟩ := h1.sq h2
  refine ⟨q, cr, fun i hi => ?_⟩
  obtain ⟨a1, a2, a3, a4, a5⟩ := hq i hi
  refine ⟨a1, a2, a3, a4, fun j hj => ?_⟩
  obtain ⟨b1, b2, b3⟩ := a5 j hj
  exact ⟨b1, b2, fun x => ⟨b3 x, h2.set2 hi x, set2_len _ _ _ _, fun k hk => (h4 k hk).set _ _ _⟩⟩
/-- all numbers of a square of n lie between a and b -/
def BdN (a b : Int) (n : Nat) (D : List (List Int)) : Prop := ∀ i, i < n → ∀ j, j < n → a ≤ at2 D i j ∧ at2 D i j ≤ b
theorem BdN.set2 {a b : Int} {n : Nat} {D : List (List Int)} {i j : Nat} (h : BdN a b n D) (hs : Sq D) (hl : D.length = n) (hi : i < n) (hj : j < n) {x : Int} (h0 : a ≤ x) (h1 : x ≤ b) : BdN a b n (set2 D i j x) := fun k hk l hl' => by
  rw [set2_at (by omega) (by rw [hs i (by omega)]; omega)]
  split
  · exact ⟨h0, h1⟩
  · exact h k hk l hl'
end Go.Proofs.Ytbkefojepelggaa
