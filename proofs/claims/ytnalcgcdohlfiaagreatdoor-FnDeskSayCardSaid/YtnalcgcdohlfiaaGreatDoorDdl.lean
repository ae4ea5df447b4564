/- What is proved: plain facts of a deed drawn. Conditions: those of each contract. -/
import Derived.Test.YtnalcgcdohlfiaaGreatDoorDoS
import Derived.Test.YtnalcgcdohlfiaaGreatDoorPc
import Derived.Deep.DeepCutAuto
import Derived.Deep.RegionLaw
import Derived.Deep.CutBlock
namespace Go.Proofs.YtnalcgcdohlfiaaGreatDoor
open Go.RowKit
/-- a deed to be read -/
def DeedM (W : World) (v : Value) (kind : Int) (xs : List Int) : Prop := ∃ A c, v = .agg #[.int .i64 kind, .slice A (List.length xs) c] ∧ Ints W A c xs
/-- a deed drawn -/
def DrawnDd (w : World) (B g : Nat) (u : Int) (e : Ending) (w' : World) : Prop :=
  ∃ kind A c xs, e = .returned (.agg #[.int .i64 kind, .slice A (List.length xs) c]) ∧ OwnI w.heap.size w' (.slice A xs.length c) xs ∧ (0 ≤ kind ∧ kind ≤ 9) ∧ xs.length ≤ 8 ∧ (∀ i, i < xs.length → -1 ≤ ix xs i ∧ ix xs i ≤ 200) ∧ RdU w' B g u ∧ ExtG g w w'
/-- a deed under way: its block m5; the desk's block and the result's block ahead of it -/
def DdS (w : World) (B g : Nat) (p1 p2 : Value) (m5 : Nat) (u : Int) (kind : Int) (xs : List Int) (v : Value) (W : World) : Prop :=
  RdU W B g u ∧ ExtG g w W ∧ W.heap[w.heap.size]? = some (.cells #[p1, p2] 26 (0, 0)) ∧ W.heap[w.heap.size + 1]? = some (.cells #[.int .i64 0, .slice none 0 0] 54 (0, 0)) ∧ w.heap.size + 2 ≤ m5 ∧
    W.heap[m5]? = some (.cells #[.int .i64 kind, v] 54 (0, 0)) ∧ OwnI w.heap.size W v xs
theorem DdS.le {w W : World} {B g m5 : Nat} {p1 p2 v : Value} {u u' kind : Int} {xs : List Int} (h : DdS w B g p1 p2 m5 u kind xs v W) (k : u ≤ u') : DdS w B g p1 p2 m5 u' kind xs v W := ⟨h.1.le k, h.2⟩
theorem DdS.rd {w W W' : World} {B g m5 : Nat} {p1 p2 v : Value} {u u' kind : Int} {xs : List Int} (h : DdS w B g p1 p2 m5 u kind xs v W) (hO : Only (fun x => x = g) W W') (hR : RdU W' B g u') (hB : B ≤ w.heap.size) : DdS w B g p1 p2 m5 u' kind xs v W' := by
  obtain ⟨h1, h2, h3, h4, h5, h6, h7⟩ := h
  have hg := hR.lt
  exact ⟨hR, h2.rd hO, (hO.2.2.2.2 _ (by omega)).trans h3, (hO.2.2.2.2 _ (by omega)).trans h4, h5, (hO.2.2.2.2 _ (by omega)).trans h6, h7.keep fun q hq _ => hO.2.2.2.2 q (by have := (h7.ge hq).1; omega)⟩
theorem DdS.ext {w W W' : World} {B g m5 : Nat} {p1 p2 v : Value} {u kind : Int} {xs : List Int} (h : DdS w B g p1 p2 m5 u kind xs v W) (k : Ext W W') (hB : B ≤ w.heap.size) : DdS w B g p1 p2 m5 u kind xs v W' := by
  obtain ⟨h1, h2, h3, h4, h5, h6, h7⟩ := h
  exact ⟨h1.ext k (by have := h2.size; omega), h2.on k, (k.block (heap_lt h3)).trans h3, (k.block (heap_lt h4)).trans h4, h5, (k.block (heap_lt h6)).trans h6, h7.keep fun q hq hlt => k.block hlt⟩
theorem DdS.cells {w W : World} {B g m5 : Nat} {p1 p2 v : Value} {u kind : Int} {xs : List Int} (h : DdS w B g p1 p2 m5 u kind xs v W) :
    W.cell? ⟨w.heap.size, 0, none⟩ = some p1 ∧ W.cell? ⟨m5, 0, none⟩ = some (.int .i64 kind) ∧ W.cell? ⟨m5, 1, none⟩ = some v ∧ W.frozen? ⟨m5, 1, none⟩ = false :=
  ⟨(two_cells h.2.2.1).1, (two_cells h.2.2.2.2.2.1).1, (two_cells h.2.2.2.2.2.1).2, frozen_cells h.2.2.2.2.2.1 1⟩
theorem DdS.push {P : Program} {w W0 W1 : World} {B g m5 : Nat} {p1 p2 v : Value} {u kind : Int} {xs : List Int} {T E ty : TypeId} (hE : E = 3)
    (ht : P.underlying T = some (.slice E)) (hinfo : (P.info? E).map (fun i => (i.zero, i.size, i.bytes)) = some (some (.int .i64 0), 1, 8)) (h : DdS w B g p1 p2 m5 u kind xs v W0) (hx : Ext W0 W1) (hB : B ≤ w.heap.size) (x : Int) (hl : xs.length ≤ 1000) :
    ∃ v' w', (Builtin.append_ #[T, T] ty #[v, .slice (some ⟨W1.heap.size, 0, none⟩) 1 1]).run P (W1.alloc (.cells #[.int .i64 x] E)) = .ok v' w' ∧
      ∃ A' c', v' = .slice A' (xs.length + 1) c' ∧ w'.cell? ⟨m5, 1, none⟩ = some v ∧ w'.frozen? ⟨m5, 1, none⟩ = false ∧ DdS w B g p1 p2 m5 u kind (xs ++ [x]) v' (w'.setCell ⟨m5, 1, none⟩ v') := by
  subst hE
  obtain ⟨h1, h2, h3, h4, h5, h6, h7⟩ := h.ext (hx.trans (Ext.alloc W1 (.cells #[.int .i64 x] 3))) hB
  have hbase : w.heap.size ≤ (W1.alloc (.cells #[.int .i64 x] 3)).heap.size := h2.size
  have hacc : Acc (cutW (W1.alloc (.cells #[.int .i64 x] 3)) w.heap.size) (W1.alloc (.cells #[.int .i64 x] 3)) 3 v (xs.map (Value.int .i64)) := ⟨cut_ext hbase, by rw [cut_size hbase]; exact h7⟩
  obtain ⟨v', w', hrun, ha, hb, -⟩ := app_run (ty := ty) ht hinfo rfl (by decide) v _ ⟨W1.heap.size, 0, none⟩ 1 1 [.int .i64 x] rfl (one_news (cell_new0 W1 _ _) rfl) (map_one [x]) hacc (by simp; omega)
  have ha2 := ha.2
  rw [cut_size hbase] at ha2
  have hown : OwnI w.heap.size w' v' (xs ++ [x]) := by
    unfold OwnI
    rw [List.map_append]
    exact ha2
  obtain ⟨A', c', hv, -, -⟩ := hown.len
  rw [List.length_append, List.length_singleton] at hv
  have b3 : w'.heap[w.heap.size]? = _ := hb.block hacc.2 (by decide) h3
  have b4 : w'.heap[w.heap.size + 1]? = _ := hb.block hacc.2 (by decide) h4
  have b6 : w'.heap[m5]? = _ := hb.block hacc.2 (by decide) h6
  refine ⟨v', w', hrun, A', c', hv, (two_cells b6).2, frozen_cells b6 1, (h1.cut ha.1 hbase hB).set (p := ⟨m5, 1, none⟩) (by show B ≤ m5; omega) _, (h2.cut ha.1 hbase (Nat.le_refl _)).set (p := ⟨m5, 1, none⟩) (by show w.heap.size ≤ m5; omega) _, set_far b3 (by show w.heap.size ≠ m5; omega), set_far b4 (by show w.heap.size + 1 ≠ m5; omega), h5, set_1 b6, hown.keep fun q hq hlt => Below.heap_setCell _ _ _ _ fun e => ?_⟩
  have e : q = m5 := e
  subst e
  rcases hown.2 with ⟨e0, _⟩ | ⟨g', cap, cur, e1, _, e3, _⟩
  · rw [e0] at hq; simp [Value.ownBlock] at hq
  · rw [e1] at hq
    simp [Value.ownBlock] at hq
    subst hq
    rw [b6] at e3
    injection e3 with e3
    injection e3 with _ e3
    exact absurd e3 (by decide)
/-- what stays around a deed under way -/
def DdB (w : World) (B g : Nat) (p1 p2 : Value) (u : Int) (W : World) : Prop :=
  RdU W B g u ∧ ExtG g w W ∧ W.heap[w.heap.size]? = some (.cells #[p1, p2] 26 (0, 0)) ∧ W.heap[w.heap.size + 1]? = some (.cells #[.int .i64 0, .slice none 0 0] 54 (0, 0))
theorem DdB.ext {w W W' : World} {B g : Nat} {p1 p2 : Value} {u : Int} (h : DdB w B g p1 p2 u W) (k : Ext W W') (hB : B ≤ w.heap.size) : DdB w B g p1 p2 u W' :=
  ⟨h.1.ext k (by have := h.2.1.size; omega), h.2.1.on k, (k.block (heap_lt h.2.2.1)).trans h.2.2.1, (k.block (heap_lt h.2.2.2)).trans h.2.2.2⟩
theorem DdB.set {w W : World} {B g m j : Nat} {p1 p2 : Value} {u : Int} (h : DdB w B g p1 p2 u W) (hB : B ≤ w.heap.size) (hm : w.heap.size + 2 ≤ m) (x : Value) : DdB w B g p1 p2 u (W.setCell ⟨m, j, none⟩ x) :=
  ⟨h.1.set (p := ⟨m, j, none⟩) (by show B ≤ m; omega) _, h.2.1.set (p := ⟨m, j, none⟩) (by show w.heap.size ≤ m; omega) _, set_far h.2.2.1 (by show w.heap.size ≠ m; omega), set_far h.2.2.2 (by show w.heap.size + 1 ≠ m; omega)⟩
theorem DdB.rd {w W W' : World} {B g : Nat} {p1 p2 : Value} {u u' : Int} (h : DdB w B g p1 p2 u W) (hO : Only (fun x => x = g) W W') (hR : RdU W' B g u') (hB : B ≤ w.heap.size) : DdB w B g p1 p2 u' W' := by
  have hg := hR.lt
  exact ⟨hR, h.2.1.rd hO, (hO.2.2.2.2 _ (by omega)).trans h.2.2.1, (hO.2.2.2.2 _ (by omega)).trans h.2.2.2⟩
theorem DdB.start {w : World} {B g : Nat} {p1 p2 : Value} {u : Int} (hR : RdU w B g u) (hB : B ≤ w.heap.size) : DdB w B g p1 p2 u ((w.alloc (.cells #[p1, p2] 26)).alloc (.cells #[.int .i64 0, .slice none 0 0] 54)) := by
  obtain ⟨b1, b2, hx, -⟩ := two_blocks (Ext.refl ((w.alloc (.cells #[p1, p2] 26)).alloc (.cells #[.int .i64 0, .slice none 0 0] 54)))
  exact ⟨hR.ext hx hB, hx.toG g, b1, b2⟩
theorem DdB.deed {w W : World} {B g m5 : Nat} {p1 p2 : Value} {u kind : Int} (h : DdB w B g p1 p2 u W) (h5 : w.heap.size + 2 ≤ m5) (hb : W.heap[m5]? = some (.cells #[.int .i64 kind, .slice none 0 0] 54 (0, 0))) : DdS w B g p1 p2 m5 u kind [] (.slice none 0 0) W :=
  ⟨h.1, h.2.1, h.2.2.1, h.2.2.2, h5, hb, World.ownsRow_nil _ _ _ _⟩
theorem lit_kind {v : Int} (h0 : 0 ≤ v) (h8 : v < 8) : ∃ K : Int, (∀ h, ([Value.int .i64 0, .int .i64 0, .int .i64 0, .int .i64 0, .int .i64 1, .int .i64 2, .int .i64 3, .int .i64 4] : List Value)[v.toNat]'h = .int .i64 K) ∧ 0 ≤ K ∧ K ≤ 4 := by
  have : v = 0 ∨ v = 1 ∨ v = 2 ∨ v = 3 ∨ v = 4 ∨ v = 5 ∨ v = 6 ∨ v = 7 := by omega
  rcases this with rfl | rfl | rfl | rfl | rfl | rfl | rfl | rfl
  · exact ⟨0, fun _ => rfl, by omega, by omega⟩
  · exact ⟨0, fun _ => rfl, by omega, by omega⟩
  · exact ⟨0, fun _ => rfl, by omega, by omega⟩
  · exact ⟨0, fun _ => rfl, by omega, by omega⟩
  · exact ⟨1, fun _ => rfl, by omega, by omega⟩
  · exact ⟨2, fun _ => rfl, by omega, by omega⟩
  · exact ⟨3, fun _ => rfl, by omega, by omega⟩
  · exact ⟨4, fun _ => rfl, by omega, by omega⟩
theorem alloc_at {W : World} {o : Obj} {k : Nat} (h : k = W.heap.size) : (W.alloc o).heap[k]? = some o := by subst h; exact heap_alloc_new W o
theorem alloc_old {W : World} {o : Obj} {k : Nat} {v : Option Obj} (h : k < W.heap.size) (hb : W.heap[k]? = v) : (W.alloc o).heap[k]? = v := (Below.heap_alloc W o k h).trans hb
theorem drew_at {W : World} {k : Nat} {v : Option Obj} (hb : W.heap[k]? = v) : W.drew.heap[k]? = v := hb
theorem only_at {W W' : World} {g k : Nat} {v : Option Obj} (hO : Only (fun x => x = g) W W') (hne : k ≠ g) (hb : W.heap[k]? = v) : W'.heap[k]? = v := (hO.2.2.2.2 k hne).trans hb
theorem kind_sum {K v : Int} (h0 : 0 ≤ K) (h4 : K ≤ 4) (v0 : 0 ≤ v) (v1 : v < 60 ∨ v = 0) : ∃ KD : Int, IntKind.i64.wrap (K + IntKind.i64.wrap (IntKind.i64.wrap (v.tdiv 59) * 5)) = KD ∧ 0 ≤ KD ∧ KD ≤ 9 := by
  have e1 : v.tdiv 59 = v / 59 := Int.tdiv_eq_ediv_of_nonneg v0
  have e2 : IntKind.i64.wrap (v / 59) = v / 59 := IntWalk.i64_in _ ⟨by omega, by omega⟩
  have e3 : IntKind.i64.wrap (v / 59 * 5) = v / 59 * 5 := IntWalk.i64_in _ ⟨by omega, by omega⟩
  have e4 : IntKind.i64.wrap (K + v / 59 * 5) = K + v / 59 * 5 := IntWalk.i64_in _ ⟨by omega, by omega⟩
  exact ⟨K + v / 59 * 5, by rw [e1, e2, e3, e4], by omega, by omega⟩
theorem lit_three {v : Int} (h0 : 0 ≤ v) (h8 : v < 3) : ∃ K : Int, (∀ h, ([Value.int .i64 7, .int .i64 (-1), .int .i64 100] : List Value)[v.toNat]'h = .int .i64 K) ∧ -1 ≤ K ∧ K ≤ 200 := by
  have : v = 0 ∨ v = 1 ∨ v = 2 := by omega
  rcases this with rfl | rfl | rfl
  · exact ⟨7, fun _ => rfl, by omega, by omega⟩
  · exact ⟨-1, fun _ => rfl, by omega, by omega⟩
  · exact ⟨100, fun _ => rfl, by omega, by omega⟩
theorem DdS.done {w W : World} {B g m5 : Nat} {p1 p2 v : Value} {u kind : Int} {xs : List Int} (h : DdS w B g p1 p2 m5 u kind xs v W) (x y : Value) (hB : B ≤ w.heap.size) :
    OwnI w.heap.size ((W.setCell ⟨w.heap.size + 1, 0, none⟩ x).setCell ⟨w.heap.size + 1, 1, none⟩ y) v xs ∧ RdU ((W.setCell ⟨w.heap.size + 1, 0, none⟩ x).setCell ⟨w.heap.size + 1, 1, none⟩ y) B g u ∧ ExtG g w ((W.setCell ⟨w.heap.size + 1, 0, none⟩ x).setCell ⟨w.heap.size + 1, 1, none⟩ y) := by
  obtain ⟨h1, h2, h3, h4, h5, h6, h7⟩ := h
  refine ⟨h7.keep fun q hq hlt => ?_, (h1.set (p := ⟨w.heap.size + 1, 0, none⟩) (by show B ≤ w.heap.size + 1; omega) _).set (p := ⟨w.heap.size + 1, 1, none⟩) (by show B ≤ w.heap.size + 1; omega) _, (h2.set (p := ⟨w.heap.size + 1, 0, none⟩) (by show w.heap.size ≤ w.heap.size + 1; omega) _).set (p := ⟨w.heap.size + 1, 1, none⟩) (by show w.heap.size ≤ w.heap.size + 1; omega) _⟩
  have hne : q ≠ w.heap.size + 1 := by
    intro e
    subst e
    rcases h7.2 with ⟨e0, _⟩ | ⟨g', cap, cur, e1, _, e3, _⟩
    · rw [e0] at hq; simp [Value.ownBlock] at hq
    · rw [e1] at hq
      simp [Value.ownBlock] at hq
      subst hq
      rw [h4] at e3
      injection e3 with e3
      injection e3 with _ e3
      exact absurd e3 (by decide)
  exact (Below.heap_setCell _ _ _ _ fun e => hne e).trans (Below.heap_setCell _ _ _ _ fun e => hne e)
theorem DdS.after {w W : World} {B g m5 : Nat} {p1 p2 v : Value} {u kind : Int} {xs : List Int} (h : DdS w B g p1 p2 m5 u kind xs v W) (hB : B ≤ w.heap.size) :
    (∀ x, (W.alloc x).cell? ⟨m5, 1, none⟩ = some v) ∧ (∀ x, (W.alloc x).frozen? ⟨m5, 1, none⟩ = false) ∧ (∀ x y, ((W.alloc x).alloc y).cell? ⟨m5, 1, none⟩ = some v) ∧ (∀ x y, ((W.alloc x).alloc y).frozen? ⟨m5, 1, none⟩ = false) :=
  ⟨fun x => (h.ext (Ext.alloc W x) hB).cells.2.2.1, fun x => (h.ext (Ext.alloc W x) hB).cells.2.2.2, fun x y => (h.ext ((Ext.alloc W x).alloc' y) hB).cells.2.2.1, fun x y => (h.ext ((Ext.alloc W x).alloc' y) hB).cells.2.2.2⟩
theorem snoc_all {xs : List Int} {x : Int} (h : ∀ i, i < xs.length → -1 ≤ ix xs i ∧ ix xs i ≤ 200) (q : -1 ≤ x ∧ x ≤ 200) : ∀ i, i < (xs ++ [x]).length → -1 ≤ ix (xs ++ [x]) i ∧ ix (xs ++ [x]) i ≤ 200 := by
  intro i hi
  rw [List.length_append, List.length_singleton] at hi
  unfold ix
  by_cases q1 : i < xs.length
  · have := h i q1
    unfold ix at this
    simp only [List.getD_eq_getElem?_getD, List.getElem?_append_left q1]
    simpa only [List.getD_eq_getElem?_getD] using this
  · obtain rfl : i = xs.length := by omega
    simp [List.getD_eq_getElem?_getD]
    exact q
end Go.Proofs.YtnalcgcdohlfiaaGreatDoor
