/- What is proved: l20Deed draws a deed for a desk. Conditions: those of each contract. -/
import Derived.Test.YtnalcgcdohlfiaaGreatDoorDdl
import Derived.Deep.DeepCutAuto
import Derived.Deep.RegionLaw
import Derived.Deep.CutBlock
namespace Go.Proofs.YtnalcgcdohlfiaaGreatDoor
open Go.RowKit
theorem deed_set2 {m : Nat} {w : World} {x y : Value} {T : TypeId} (hb : w.heap[m]? = some (.cells #[x, y] T (0, 0))) (u v : Value) :
    w.cell? ⟨m, 0, none⟩ = some x ∧ w.frozen? ⟨m, 0, none⟩ = false ∧ (w.setCell ⟨m, 0, none⟩ u).cell? ⟨m, 1, none⟩ = some y ∧ (w.setCell ⟨m, 0, none⟩ u).frozen? ⟨m, 1, none⟩ = false ∧
      ((w.setCell ⟨m, 0, none⟩ u).setCell ⟨m, 1, none⟩ v).cell? ⟨m, 0, none⟩ = some u ∧ ((w.setCell ⟨m, 0, none⟩ u).setCell ⟨m, 1, none⟩ v).cell? ⟨m, 1, none⟩ = some v ∧ True := by
  have s0 := set_0 (u := u) hb
  have s1 := set_1 (u := v) s0
  exact ⟨by rw [cell_cells hb]; rfl, frozen_cells hb 0, by rw [cell_cells s0]; rfl, frozen_cells s0 1, by rw [cell_cells s1]; rfl, by rw [cell_cells s1]; rfl, trivial⟩
theorem DdS.push2 {P : Program} {w W0 : World} {B g m5 : Nat} {p1 p2 v : Value} {u kind : Int} {xs : List Int} {T E ty : TypeId} (hE : E = 3)
    (ht : P.underlying T = some (.slice E)) (hinfo : (P.info? E).map (fun i => (i.zero, i.size, i.bytes)) = some (some (.int .i64 0), 1, 8)) (h : DdS w B g p1 p2 m5 u kind xs v W0) (o : Obj) (hB : B ≤ w.heap.size) (x : Int) (hl : xs.length ≤ 1000) :
    ∃ v' w', (Builtin.append_ #[T, T] ty #[v, .slice (some ⟨W0.heap.size + 1, 0, none⟩) 1 1]).run P ((W0.alloc o).alloc (.cells #[.int .i64 x] E)) = .ok v' w' ∧
      ∃ A' c', v' = .slice A' (xs.length + 1) c' ∧ w'.cell? ⟨m5, 1, none⟩ = some v ∧ w'.frozen? ⟨m5, 1, none⟩ = false ∧ DdS w B g p1 p2 m5 u kind (xs ++ [x]) v' (w'.setCell ⟨m5, 1, none⟩ v') := by
  have e : (W0.alloc o).heap.size = W0.heap.size + 1 := by simp
  have q := h.push (ty := ty) hE ht hinfo (Ext.alloc W0 o) hB x hl
  rw [e] at q
  exact q
set_option maxRecDepth 100000 in
set_option maxHeartbeats 40000000 in
theorem l20Deed_any {w : World} {B g : Nat} {u : Int} (hR : RdU w B g u) (hB : B ≤ w.heap.size) (hu : u ≤ 200000) (A : Option Addr) (c : Nat) (D : List (List Int)) (p2 : Value) (h : Under w.heap.size g w A c D) (h6 : D.length ≤ 6) (hb : ∀ i, i < D.length → ∀ k, k < (row D i).length → 0 ≤ at2 D i k ∧ at2 D i k ≤ 60) (_ : p2.oneCell' = true) :
    Calls Tryz.prog 28 #[.pointer (some ⟨g, 0, none⟩), .agg #[.slice A D.length c, p2]] w (DrawnDd w B g (u + 30)) := by
  have hg := hR.lt
  have HR := Lib.hid hR
  have HM := Lib.hid h
  clear hR h
  go_enter Tryz.func28, Tryz.ntmps28
  go_upto_region 1 with fail
  go_cut [5] (fun s5 wx => ∃ m5 kind, s5 = .pointer (some ⟨m5, 0, none⟩) ∧ (0 ≤ kind ∧ kind ≤ 9) ∧ Hid (DdS w B g (.slice A D.length c) p2 m5 (u + 2) kind [] (.slice none 0 0) wx))
  case first =>
    have HD0 := Lib.hid (DdB.start (p1 := .slice A D.length c) (p2 := p2) HR.out hB)
    have HRX := Lib.hid (fun W (q : Ext w W) => HR.out.ext q hB)
    go_region_law (first
      | (go_simp; go_at_call 15; (fail_if_success (have q := hO5)); refine (pickU (HRX.out _ (by repeat (first | exact Ext.refl _ | apply Ext.drew' | apply Ext.alloc'))) _ (by omega) (by omega) (by omega)).mono ?_; rintro e w5 ⟨v5, rfl, a0, a1, hR5, hO5⟩; have l5 : v5 < 8 := (by omega); obtain ⟨K5, hK5, hK0, hK4⟩ := lit_kind a0 l5; have HD5 := Lib.hid ((HD0.out.ext (W' := _) (by repeat (first | exact Ext.refl _ | apply Ext.drew' | apply Ext.alloc')) hB).rd hO5 hR5 hB); have hs5 : B ≤ w5.heap.size := (by rw [hO5.2.2.2.1]; exact Nat.le_trans hB (Ext.size (by repeat (first | exact Ext.refl _ | apply Ext.drew' | apply Ext.alloc')))); have x5c0 : ∀ o, w5.cell? ⟨w.heap.size + 1 + 1, o, none⟩ = _ := (fun o => World.cell?_of_block (hO5.2.2.2.2 _ (by show w.heap.size + 1 + 1 ≠ g; omega))); have x5f0 : ∀ o, w5.frozen? ⟨w.heap.size + 1 + 1, o, none⟩ = _ := (fun o => World.frozen?_of_block (hO5.2.2.2.2 _ (by show w.heap.size + 1 + 1 ≠ g; omega))); have x5c1 : ∀ o, w5.cell? ⟨w.heap.size + 1 + 1 + 1, o, none⟩ = _ := (fun o => World.cell?_of_block (hO5.2.2.2.2 _ (by show w.heap.size + 1 + 1 + 1 ≠ g; omega))); have x5f1 : ∀ o, w5.frozen? ⟨w.heap.size + 1 + 1 + 1, o, none⟩ = _ := (fun o => World.frozen?_of_block (hO5.2.2.2.2 _ (by show w.heap.size + 1 + 1 + 1 ≠ g; omega))); (try have y5a0 : ∀ x o, (w5.alloc x).cell? ⟨w.heap.size + 1 + 1, o, none⟩ = w5.cell? ⟨w.heap.size + 1 + 1, o, none⟩ := (fun x o => World.cell?_of_block (Below.heap_alloc w5 x _ (show w.heap.size + 1 + 1 < w5.heap.size by have q := hO5.2.2.2.1; simp at q; omega)))); (try have z5a0 : ∀ x o, (w5.alloc x).frozen? ⟨w.heap.size + 1 + 1, o, none⟩ = w5.frozen? ⟨w.heap.size + 1 + 1, o, none⟩ := (fun x o => World.frozen?_of_block (Below.heap_alloc w5 x _ (show w.heap.size + 1 + 1 < w5.heap.size by have q := hO5.2.2.2.1; simp at q; omega)))); (try have y5b0 : ∀ x y o, ((w5.alloc x).alloc y).cell? ⟨w.heap.size + 1 + 1, o, none⟩ = w5.cell? ⟨w.heap.size + 1 + 1, o, none⟩ := (fun x y o => (World.cell?_of_block (Below.heap_alloc (w5.alloc x) y _ (by have q2 := (show w.heap.size + 1 + 1 < w5.heap.size by have q := hO5.2.2.2.1; simp at q; omega); simp; omega))).trans (World.cell?_of_block (Below.heap_alloc w5 x _ (show w.heap.size + 1 + 1 < w5.heap.size by have q := hO5.2.2.2.1; simp at q; omega))))); (try have z5b0 : ∀ x y o, ((w5.alloc x).alloc y).frozen? ⟨w.heap.size + 1 + 1, o, none⟩ = w5.frozen? ⟨w.heap.size + 1 + 1, o, none⟩ := (fun x y o => (World.frozen?_of_block (Below.heap_alloc (w5.alloc x) y _ (by have q2 := (show w.heap.size + 1 + 1 < w5.heap.size by have q := hO5.2.2.2.1; simp at q; omega); simp; omega))).trans (World.frozen?_of_block (Below.heap_alloc w5 x _ (show w.heap.size + 1 + 1 < w5.heap.size by have q := hO5.2.2.2.1; simp at q; omega))))); (try have y5a1 : ∀ x o, (w5.alloc x).cell? ⟨w.heap.size + 1 + 1 + 1, o, none⟩ = w5.cell? ⟨w.heap.size + 1 + 1 + 1, o, none⟩ := (fun x o => World.cell?_of_block (Below.heap_alloc w5 x _ (show w.heap.size + 1 + 1 + 1 < w5.heap.size by have q := hO5.2.2.2.1; simp at q; omega)))); (try have z5a1 : ∀ x o, (w5.alloc x).frozen? ⟨w.heap.size + 1 + 1 + 1, o, none⟩ = w5.frozen? ⟨w.heap.size + 1 + 1 + 1, o, none⟩ := (fun x o => World.frozen?_of_block (Below.heap_alloc w5 x _ (show w.heap.size + 1 + 1 + 1 < w5.heap.size by have q := hO5.2.2.2.1; simp at q; omega)))); (try have y5b1 : ∀ x y o, ((w5.alloc x).alloc y).cell? ⟨w.heap.size + 1 + 1 + 1, o, none⟩ = w5.cell? ⟨w.heap.size + 1 + 1 + 1, o, none⟩ := (fun x y o => (World.cell?_of_block (Below.heap_alloc (w5.alloc x) y _ (by have q2 := (show w.heap.size + 1 + 1 + 1 < w5.heap.size by have q := hO5.2.2.2.1; simp at q; omega); simp; omega))).trans (World.cell?_of_block (Below.heap_alloc w5 x _ (show w.heap.size + 1 + 1 + 1 < w5.heap.size by have q := hO5.2.2.2.1; simp at q; omega))))); (try have z5b1 : ∀ x y o, ((w5.alloc x).alloc y).frozen? ⟨w.heap.size + 1 + 1 + 1, o, none⟩ = w5.frozen? ⟨w.heap.size + 1 + 1 + 1, o, none⟩ := (fun x y o => (World.frozen?_of_block (Below.heap_alloc (w5.alloc x) y _ (by have q2 := (show w.heap.size + 1 + 1 + 1 < w5.heap.size by have q := hO5.2.2.2.1; simp at q; omega); simp; omega))).trans (World.frozen?_of_block (Below.heap_alloc w5 x _ (show w.heap.size + 1 + 1 + 1 < w5.heap.size by have q := hO5.2.2.2.1; simp at q; omega))))))
      | (go_simp; go_at_call 15; refine (pickU (hR5.ext (by repeat (first | exact Ext.refl _ | apply Ext.drew' | apply Ext.alloc')) hs5) _ (by omega) (by omega) (by omega)).mono ?_; rintro e w6 ⟨v6, rfl, c0, c1, hR6, hO6⟩; obtain ⟨KD, hKD, hKD0, hKD9⟩ := kind_sum hK0 hK4 c0 c1; have HD6 := Lib.hid ((HD5.out.ext (W' := _) (by repeat (first | exact Ext.refl _ | apply Ext.drew' | apply Ext.alloc')) hB).rd hO6 (hR6.le (u' := u + 2) (by omega)) hB); have x6c0 : ∀ o, w6.cell? ⟨w.heap.size + 1 + 1, o, none⟩ = _ := (fun o => World.cell?_of_block (hO6.2.2.2.2 _ (by show w.heap.size + 1 + 1 ≠ g; omega))); have x6f0 : ∀ o, w6.frozen? ⟨w.heap.size + 1 + 1, o, none⟩ = _ := (fun o => World.frozen?_of_block (hO6.2.2.2.2 _ (by show w.heap.size + 1 + 1 ≠ g; omega))); have x6c1 : ∀ o, w6.cell? ⟨w.heap.size + 1 + 1 + 1, o, none⟩ = _ := (fun o => World.cell?_of_block (hO6.2.2.2.2 _ (by show w.heap.size + 1 + 1 + 1 ≠ g; omega))); have x6f1 : ∀ o, w6.frozen? ⟨w.heap.size + 1 + 1 + 1, o, none⟩ = _ := (fun o => World.frozen?_of_block (hO6.2.2.2.2 _ (by show w.heap.size + 1 + 1 + 1 ≠ g; omega))); have x6c2 : ∀ o, w6.cell? ⟨w5.heap.size, o, none⟩ = _ := (fun o => World.cell?_of_block (hO6.2.2.2.2 _ (by show w5.heap.size ≠ g; omega))); have x6f2 : ∀ o, w6.frozen? ⟨w5.heap.size, o, none⟩ = _ := (fun o => World.frozen?_of_block (hO6.2.2.2.2 _ (by show w5.heap.size ≠ g; omega))); have x6c3 : ∀ o, w6.cell? ⟨w5.heap.size + 1, o, none⟩ = _ := (fun o => World.cell?_of_block (hO6.2.2.2.2 _ (by show w5.heap.size + 1 ≠ g; omega))); have x6f3 : ∀ o, w6.frozen? ⟨w5.heap.size + 1, o, none⟩ = _ := (fun o => World.frozen?_of_block (hO6.2.2.2.2 _ (by show w5.heap.size + 1 ≠ g; omega))); (try have y6a0 : ∀ x o, (w6.alloc x).cell? ⟨w.heap.size + 1 + 1, o, none⟩ = w6.cell? ⟨w.heap.size + 1 + 1, o, none⟩ := (fun x o => World.cell?_of_block (Below.heap_alloc w6 x _ (show w.heap.size + 1 + 1 < w6.heap.size by have q := hO6.2.2.2.1; have q5 := hO5.2.2.2.1; first | (simp at q; omega) | (simp at q5; omega) | (simp at q5; simp at q; omega))))); (try have z6a0 : ∀ x o, (w6.alloc x).frozen? ⟨w.heap.size + 1 + 1, o, none⟩ = w6.frozen? ⟨w.heap.size + 1 + 1, o, none⟩ := (fun x o => World.frozen?_of_block (Below.heap_alloc w6 x _ (show w.heap.size + 1 + 1 < w6.heap.size by have q := hO6.2.2.2.1; have q5 := hO5.2.2.2.1; first | (simp at q; omega) | (simp at q5; omega) | (simp at q5; simp at q; omega))))); (try have y6b0 : ∀ x y o, ((w6.alloc x).alloc y).cell? ⟨w.heap.size + 1 + 1, o, none⟩ = w6.cell? ⟨w.heap.size + 1 + 1, o, none⟩ := (fun x y o => (World.cell?_of_block (Below.heap_alloc (w6.alloc x) y _ (by have q2 := (show w.heap.size + 1 + 1 < w6.heap.size by have q := hO6.2.2.2.1; have q5 := hO5.2.2.2.1; first | (simp at q; omega) | (simp at q5; omega) | (simp at q5; simp at q; omega)); simp; omega))).trans (World.cell?_of_block (Below.heap_alloc w6 x _ (show w.heap.size + 1 + 1 < w6.heap.size by have q := hO6.2.2.2.1; have q5 := hO5.2.2.2.1; first | (simp at q; omega) | (simp at q5; omega) | (simp at q5; simp at q; omega)))))); (try have z6b0 : ∀ x y o, ((w6.alloc x).alloc y).frozen? ⟨w.heap.size + 1 + 1, o, none⟩ = w6.frozen? ⟨w.heap.size + 1 + 1, o, none⟩ := (fun x y o => (World.frozen?_of_block (Below.heap_alloc (w6.alloc x) y _ (by have q2 := (show w.heap.size + 1 + 1 < w6.heap.size by have q := hO6.2.2.2.1; have q5 := hO5.2.2.2.1; first | (simp at q; omega) | (simp at q5; omega) | (simp at q5; simp at q; omega)); simp; omega))).trans (World.frozen?_of_block (Below.heap_alloc w6 x _ (show w.heap.size + 1 + 1 < w6.heap.size by have q := hO6.2.2.2.1; have q5 := hO5.2.2.2.1; first | (simp at q; omega) | (simp at q5; omega) | (simp at q5; simp at q; omega)))))); (try have y6a1 : ∀ x o, (w6.alloc x).cell? ⟨w.heap.size + 1 + 1 + 1, o, none⟩ = w6.cell? ⟨w.heap.size + 1 + 1 + 1, o, none⟩ := (fun x o => World.cell?_of_block (Below.heap_alloc w6 x _ (show w.heap.size + 1 + 1 + 1 < w6.heap.size by have q := hO6.2.2.2.1; have q5 := hO5.2.2.2.1; first | (simp at q; omega) | (simp at q5; omega) | (simp at q5; simp at q; omega))))); (try have z6a1 : ∀ x o, (w6.alloc x).frozen? ⟨w.heap.size + 1 + 1 + 1, o, none⟩ = w6.frozen? ⟨w.heap.size + 1 + 1 + 1, o, none⟩ := (fun x o => World.frozen?_of_block (Below.heap_alloc w6 x _ (show w.heap.size + 1 + 1 + 1 < w6.heap.size by have q := hO6.2.2.2.1; have q5 := hO5.2.2.2.1; first | (simp at q; omega) | (simp at q5; omega) | (simp at q5; simp at q; omega))))); (try have y6b1 : ∀ x y o, ((w6.alloc x).alloc y).cell? ⟨w.heap.size + 1 + 1 + 1, o, none⟩ = w6.cell? ⟨w.heap.size + 1 + 1 + 1, o, none⟩ := (fun x y o => (World.cell?_of_block (Below.heap_alloc (w6.alloc x) y _ (by have q2 := (show w.heap.size + 1 + 1 + 1 < w6.heap.size by have q := hO6.2.2.2.1; have q5 := hO5.2.2.2.1; first | (simp at q; omega) | (simp at q5; omega) | (simp at q5; simp at q; omega)); simp; omega))).trans (World.cell?_of_block (Below.heap_alloc w6 x _ (show w.heap.size + 1 + 1 + 1 < w6.heap.size by have q := hO6.2.2.2.1; have q5 := hO5.2.2.2.1; first | (simp at q; omega) | (simp at q5; omega) | (simp at q5; simp at q; omega)))))); (try have z6b1 : ∀ x y o, ((w6.alloc x).alloc y).frozen? ⟨w.heap.size + 1 + 1 + 1, o, none⟩ = w6.frozen? ⟨w.heap.size + 1 + 1 + 1, o, none⟩ := (fun x y o => (World.frozen?_of_block (Below.heap_alloc (w6.alloc x) y _ (by have q2 := (show w.heap.size + 1 + 1 + 1 < w6.heap.size by have q := hO6.2.2.2.1; have q5 := hO5.2.2.2.1; first | (simp at q; omega) | (simp at q5; omega) | (simp at q5; simp at q; omega)); simp; omega))).trans (World.frozen?_of_block (Below.heap_alloc w6 x _ (show w.heap.size + 1 + 1 + 1 < w6.heap.size by have q := hO6.2.2.2.1; have q5 := hO5.2.2.2.1; first | (simp at q; omega) | (simp at q5; omega) | (simp at q5; simp at q; omega)))))); (try have y6a2 : ∀ x o, (w6.alloc x).cell? ⟨w5.heap.size, o, none⟩ = w6.cell? ⟨w5.heap.size, o, none⟩ := (fun x o => World.cell?_of_block (Below.heap_alloc w6 x _ (show w5.heap.size < w6.heap.size by have q := hO6.2.2.2.1; have q5 := hO5.2.2.2.1; first | (simp at q; omega) | (simp at q5; omega) | (simp at q5; simp at q; omega))))); (try have z6a2 : ∀ x o, (w6.alloc x).frozen? ⟨w5.heap.size, o, none⟩ = w6.frozen? ⟨w5.heap.size, o, none⟩ := (fun x o => World.frozen?_of_block (Below.heap_alloc w6 x _ (show w5.heap.size < w6.heap.size by have q := hO6.2.2.2.1; have q5 := hO5.2.2.2.1; first | (simp at q; omega) | (simp at q5; omega) | (simp at q5; simp at q; omega))))); (try have y6b2 : ∀ x y o, ((w6.alloc x).alloc y).cell? ⟨w5.heap.size, o, none⟩ = w6.cell? ⟨w5.heap.size, o, none⟩ := (fun x y o => (World.cell?_of_block (Below.heap_alloc (w6.alloc x) y _ (by have q2 := (show w5.heap.size < w6.heap.size by have q := hO6.2.2.2.1; have q5 := hO5.2.2.2.1; first | (simp at q; omega) | (simp at q5; omega) | (simp at q5; simp at q; omega)); simp; omega))).trans (World.cell?_of_block (Below.heap_alloc w6 x _ (show w5.heap.size < w6.heap.size by have q := hO6.2.2.2.1; have q5 := hO5.2.2.2.1; first | (simp at q; omega) | (simp at q5; omega) | (simp at q5; simp at q; omega)))))); (try have z6b2 : ∀ x y o, ((w6.alloc x).alloc y).frozen? ⟨w5.heap.size, o, none⟩ = w6.frozen? ⟨w5.heap.size, o, none⟩ := (fun x y o => (World.frozen?_of_block (Below.heap_alloc (w6.alloc x) y _ (by have q2 := (show w5.heap.size < w6.heap.size by have q := hO6.2.2.2.1; have q5 := hO5.2.2.2.1; first | (simp at q; omega) | (simp at q5; omega) | (simp at q5; simp at q; omega)); simp; omega))).trans (World.frozen?_of_block (Below.heap_alloc w6 x _ (show w5.heap.size < w6.heap.size by have q := hO6.2.2.2.1; have q5 := hO5.2.2.2.1; first | (simp at q; omega) | (simp at q5; omega) | (simp at q5; simp at q; omega))))))))
    all_goals
      go_wp2_with fail
      go_meet
      have z5 := heap_lt HD5.out.2.2.2
      have z6 := heap_lt HD6.out.2.2.2
      have q5 := hO5.2.2.2.1
      have q6 := hO6.2.2.2.1
      (try simp at q5)
      (try simp at q6)
      refine ⟨_, KD, rfl, ⟨hKD0, hKD9⟩, Lib.hid (DdB.deed ?_ ?_ ?_)⟩
      · repeat (first | exact HD6.out | refine DdB.set ?_ hB (by omega) _ | refine DdB.ext ?_ (Ext.alloc _ _) hB)
      · omega
      · first
        | exact alloc_at (by simp)
        | exact alloc_old (by first | (simp; done) | (simp; omega) | omega) (alloc_at (by simp))
        | (refine set_1 (b := .slice none 0 0) (set_0 (a := .int .i64 0) ?_)
           repeat (first | exact alloc_at (by simp) | refine alloc_old (by first | omega | (simp; done) | (simp; omega)) ?_ | refine only_at hO6 (by omega) ?_ | refine only_at hO5 (by omega) ?_ | refine drew_at ?_))
  case rest =>
    obtain ⟨m5, kind, rfl, ⟨k0, k9⟩, HS⟩ := hcut
    have HMU := Lib.hid (fun W (q : ExtG g w W) => HM.out W (fun k hk hne => q.2.2.2.2 k hk hne))
    have HBD := Lib.hid hb
    clear HR HM hb
    obtain ⟨e0, e1, e2, e3⟩ := HS.out.cells
    obtain ⟨M, hM, M1, M7, M8⟩ : ∃ M : Int, max (D.length : Int) 1 = M ∧ 1 ≤ M ∧ M ≤ 6 ∧ (0 < D.length → M = D.length) := ⟨_, rfl, by omega, by omega, by omega⟩
    go_upto_block 0 with fail
    go_cut [6, 7, 8, 9] (fun s6 s7 s8 s9 wx => ∃ v xs, Hid (List.length xs ≤ 7 ∧ (∀ i, i < List.length xs → -1 ≤ ix xs i ∧ ix xs i ≤ 200)) ∧ Hid (DdS w B g (.slice A D.length c) p2 m5 (u + 20) kind xs v wx))
    case first =>
      by_cases q0 : kind = 0
      · subst q0
        go_wp2_with fail
        refine (pickU HS.out.1 9 (by omega) (by omega) (by omega)).mono ?_
        rintro e w1 ⟨a, rfl, a0, a1, hR1, hO1⟩
        have HS1 := Lib.hid (HS.out.rd hO1 hR1 hB)
        obtain ⟨e0, e1, e2, e3⟩ := HS1.out.cells
        have wa : IntKind.i64.wrap (1 + a) = 1 + a := IntWalk.i64_in _ ⟨by omega, by omega⟩
        clear hR1 hO1 HS
        go_wp2_with fail
        refine (pickU HS1.out.1 M (by omega) (by omega) (by omega)).mono ?_
        rintro e w2 ⟨f, rfl, f0, f1, hR2, hO2⟩
        have HS2 := Lib.hid (HS1.out.rd hO2 hR2 hB)
        obtain ⟨n, rfl⟩ : ∃ n : Nat, f = (n : Int) := ⟨f.toNat, by omega⟩
        clear hR2 hO2 HS1 e0 e1 e2 e3
        go_wp2_with fail
        go_loopg [8, 9] D.length (fun gm s8 s9 wr => ∃ (k : Nat) (xs : List Int) (v : Value), k + gm = D.length ∧ s8 = .int .i64 k ∧ Hid (List.length xs = k ∧ (∀ i, i < List.length xs → -1 ≤ ix xs i ∧ ix xs i ≤ 200)) ∧ Hid (DdS w B g (.slice A D.length c) p2 m5 (u + 5 + k) 0 xs v wr))
        case atStart => exact ⟨0, [], _, by omega, rfl, Lib.hid ⟨rfl, fun i hi => absurd hi (by simp)⟩, Lib.hid (HS2.out.le (by omega))⟩
        case round =>
          clear HS2
          obtain ⟨k, xs, v, hk, rfl, HL, HS⟩ := hrel
          obtain ⟨e0, e1, e2, e3⟩ := HS.out.cells
          by_cases hkn : k < D.length
          · have hkn' : (k : Int) < (D.length : Nat) := by omega
            obtain ⟨g1, rfl⟩ : ∃ g', gk = g' + 1 := ⟨gk - 1, by omega⟩
            go_wp2_with fail
            refine (pickU HS.out.1 2 (by omega) (by omega) (by omega)).mono ?_
            rintro e w3 ⟨y, rfl, y0, y1, hR3, hO3⟩
            have HS3 := Lib.hid (HS.out.rd hO3 hR3 hB)
            have hn : n < D.length := by have := M8 (by omega); omega
            obtain ⟨b, o, R, rc, rb, ro, hA, hrow, hlen, hRR, hcell, -⟩ := (HMU.out w3 HS3.out.2.1).parts
            obtain rfl := hA (by omega)
            have r1 := hrow n hn
            have hn' : (n : Int) < (D.length : Nat) := by omega
            clear hR3 hO3 HS e0 e1 e2 e3 hA
            obtain ⟨e0, e1, e2, e3⟩ := HS3.out.cells
            have HPU := Lib.hid (fun x => HS3.out.push (T := 47) (E := 3) (ty := 47) rfl Tryz.underlying47 infoI (Ext.refl _) hB x (by have := HL.out.1; omega))
            have HHX := Lib.hid (fun x (q : -1 ≤ x ∧ x ≤ 200) => show (xs ++ [x]).length = k + 1 ∧ (∀ i, i < (xs ++ [x]).length → -1 ≤ ix (xs ++ [x]) i ∧ ix (xs ++ [x]) i ≤ 200) from ⟨by rw [List.length_append, HL.out.1]; rfl, snoc_all HL.out.2 q⟩)
            have wy : IntKind.i64.wrap (1 + a + y) = 1 + a + y := IntWalk.i64_in _ ⟨by omega, by omega⟩
            by_cases q : k < (row D n).length
            · have q' : (k : Int) < ((row D n).length : Nat) := by omega
              have c1 := hcell n hn k q
              have r2 := hRR n hn (by omega)
              rw [r2] at r1
              obtain ⟨X, hX⟩ : ∃ X, at2 D n k = X := ⟨_, rfl⟩
              have hb := HBD.out n hn k q
              rw [hX] at hb c1
              have wx : IntKind.i64.wrap (X + (1 + a)) = X + (1 + a) := IntWalk.i64_in _ ⟨by omega, by omega⟩
              clear hX hrow hlen hRR hcell r2
              go_wp2_with (at_builtin; go_loud (refine wpList_ex rfl _ _ rfl _ (.slice (some ⟨_, 0, none⟩) 1 1) rfl rfl (HPU.out _) ?_; rintro v6 w6 ⟨A6, c6, rfl, c6a, c6b, hS6⟩))
              go_roundg g1
              case measure => omega
              case rel => exact ⟨k + 1, _, _, by omega, by go_num, Lib.hid (HHX.out (X + (1 + a)) (by omega)), Lib.hid (hS6.le (by omega))⟩
            · have q' : ¬ (k : Int) < ((row D n).length : Nat) := by omega
              clear hrow hlen hRR hcell
              go_wp2_with (at_builtin; go_loud (refine wpList_ex rfl _ _ rfl _ (.slice (some ⟨_, 0, none⟩) 1 1) rfl rfl (HPU.out _) ?_; rintro v6 w6 ⟨A6, c6, rfl, c6a, c6b, hS6⟩))
              go_roundg g1
              case measure => omega
              case rel => exact ⟨k + 1, _, _, by omega, by go_num, Lib.hid (HHX.out (1 + a + y) (by omega)), Lib.hid (hS6.le (by omega))⟩
          · have hkn' : ¬ (k : Int) < (D.length : Nat) := by omega
            go_wp2_with fail
            go_meet
            case rel => exact ⟨v, xs, Lib.hid ⟨by have := HL.out.1; omega, HL.out.2⟩, Lib.hid (HS.out.le (by omega))⟩
      · have q0' : (kind == 0) = false := beq_eq_false_iff_ne.2 q0
        by_cases q1 : kind = 1
        · subst q1
          go_wp2_with fail
          go_region_law (first | (refine step_ex rfl _ _ rfl _ (.slice (some ⟨_, 0, none⟩) 1 1) rfl rfl (HPU.out _) ?_; rintro v6 w6 ⟨A6, c6, rfl, c6a, c6b, hS6⟩) | (go_simp; go_at_call 15; (fail_if_success (have q := hO5)); refine (pickU (HS.out.ext ((Ext.refl _).drew') hB).1 M (by omega) (by omega) (by omega)).mono ?_; rintro e w5 ⟨v5, rfl, a0, a1, hR5, hO5⟩; have HS5 := Lib.hid ((HS.out.ext ((Ext.refl _).drew') hB).rd hO5 hR5 hB); obtain ⟨f0, f1, f2, f3⟩ := HS5.out.cells; obtain ⟨g2, g3, k2, k3⟩ := HS5.out.after hB; have HPU := Lib.hid (fun x => HS5.out.push (T := 47) (E := 3) (ty := 47) rfl Tryz.underlying47 infoI (Ext.refl _) hB x (by simp))))
          all_goals
            go_wp2_with fail
            go_meet
            case rel => exact ⟨_, [] ++ [v5], Lib.hid ⟨by simp, snoc_all (fun i hi => absurd hi (by simp)) (by omega)⟩, Lib.hid (hS6.le (by omega))⟩
        · have q1' : (kind == 1) = false := beq_eq_false_iff_ne.2 q1
          go_wp2_with fail
          go_meet
          case rel => exact ⟨_, [], Lib.hid ⟨by simp, fun i hi => absurd hi (by simp)⟩, Lib.hid (HS.out.le (by omega))⟩
    case rest =>
      obtain ⟨v, xs, HL, HS'⟩ := hcut
      clear HS e0 e1 e2 e3
      obtain ⟨e0, e1, e2, e3⟩ := HS'.out.cells
      go_wp2_with fail
      refine (oddU HS'.out.1 40 (by omega) (by omega) (by omega)).mono ?_
      rintro e w4 ⟨od, rfl, hR4, hO4⟩
      have HS4 := Lib.hid (HS'.out.rd hO4 hR4 hB)
      obtain ⟨A9, c9, rfl, -, -⟩ := HS4.out.2.2.2.2.2.2.len
      clear hR4 hO4 HS' e0 e1 e2 e3
      obtain ⟨e0, e1, e2, e3⟩ := HS4.out.cells
      go_upto_if 83 with fail
      go_cut [] (fun wx => ∃ v xs, Hid (List.length xs ≤ 8 ∧ (∀ i, i < List.length xs → -1 ≤ ix xs i ∧ ix xs i ≤ 200)) ∧ Hid (DdS w B g (.slice A D.length c) p2 m5 (u + 30) kind xs v wx))
      case first =>
        cases od with
        | false =>
          go_wp2
          go_meet
          case rel => exact ⟨_, xs, Lib.hid ⟨by have := HL.out.1; omega, HL.out.2⟩, Lib.hid (HS4.out.le (by omega))⟩
        | true =>
          have HEX := Lib.hid (fun W (q : Ext w4 W) => HS4.out.ext q hB)
          obtain ⟨b2, b3, -, -⟩ := HS4.out.after hB
          have HPU := Lib.hid (fun W5 u5 (h5 : DdS w B g (.slice A D.length c) p2 m5 u5 kind xs (.slice A9 xs.length c9) W5) W1 (q : Ext W5 W1) x => h5.push (T := 47) (E := 3) (ty := 47) rfl Tryz.underlying47 infoI q hB x (by have := HL.out.1; omega))
          have HPV := Lib.hid (fun W5 u5 (h5 : DdS w B g (.slice A D.length c) p2 m5 u5 kind xs (.slice A9 xs.length c9) W5) o x => h5.push2 (T := 47) (E := 3) (ty := 47) rfl Tryz.underlying47 infoI o hB x (by have := HL.out.1; omega))
          have sg := HS4.out.1.lt
          have sz := HS4.out.2.1.size
          have hng : w4.heap.size ≠ g := by omega
          have hbu : u + 20 + 1 < 1000000 := by omega
          have hbud : u + 20 + 1 + 1 ≤ u + 30 := by omega
          clear sg sz
          go_wp2_with fail
          go_region_law (first | (refine step_ex (R := fun v' w' => ∃ A' c', v' = Value.slice A' (xs.length + 1) c' ∧ w'.cell? ⟨m5, 1, none⟩ = some (.slice A9 xs.length c9) ∧ w'.frozen? ⟨m5, 1, none⟩ = false ∧ DdS w B g (.slice A D.length c) p2 m5 (u + 20 + 1 + 1) kind (xs ++ [K5]) v' (w'.setCell ⟨m5, 1, none⟩ v')) rfl _ _ rfl (.slice A9 xs.length c9) (.slice (some ⟨_, 0, none⟩) 1 1) rfl rfl ?_ ?_; (first | exact HPU.out _ _ HS5.out w5 (Ext.refl _) _ | exact HPV.out _ _ HS5.out _ _); rintro v6 w6 ⟨A6, c6, rfl, c6a, c6b, hS6⟩) | (go_simp; go_at_call 15; (fail_if_success (have q := hO5)); refine (pickU (HEX.out _ (by repeat (first | exact Ext.refl _ | apply Ext.drew' | apply Ext.alloc'))).1 3 hbu (by decide) (by decide)).mono ?_; rintro e w5 ⟨v5, rfl, a0, a1, hR5, hO5⟩; have HS5 := Lib.hid ((HEX.out _ (by repeat (first | exact Ext.refl _ | apply Ext.drew' | apply Ext.alloc'))).rd hO5 hR5 hB); have l5 : v5 < 3 := (a1.elim id (fun q => by rw [q]; decide)); obtain ⟨K5, hK5, hK0, hK4⟩ := lit_three a0 l5; obtain ⟨f0, f1, f2, f3⟩ := HS5.out.cells; obtain ⟨g2, g3, k2, k3⟩ := HS5.out.after hB; have x5c : ∀ o, w5.cell? ⟨w4.heap.size, o, none⟩ = _ := (fun o => World.cell?_of_block (hO5.2.2.2.2 _ hng))))
          all_goals
            go_wp2_with fail
            go_meet
            case rel => exact ⟨_, xs ++ [K5], Lib.hid ⟨by rw [List.length_append]; exact Nat.succ_le_succ HL.out.1, snoc_all HL.out.2 ⟨hK0, hK4⟩⟩, Lib.hid (hS6.le hbud)⟩
      case rest =>
        obtain ⟨v, ys, HLy, HS9⟩ := hcut
        obtain ⟨A8, c8, rfl, -, -⟩ := HS9.out.2.2.2.2.2.2.len
        clear HS4 HL e0 e1 e2 e3
        obtain ⟨e0, e1, e2, e3⟩ := HS9.out.cells
        obtain ⟨r0, r1⟩ := two_cells HS9.out.2.2.2.1
        have s0 := frozen_cells HS9.out.2.2.2.1 0
        have s1 := frozen_cells HS9.out.2.2.2.1 1
        have r0' : ∀ x, (wc.setCell ⟨w.heap.size + 1, 0, none⟩ x).cell? ⟨w.heap.size + 1, 1, none⟩ = _ := fun x => (two_cells (set_0 (u := x) HS9.out.2.2.2.1)).2
        have s1' : ∀ x, (wc.setCell ⟨w.heap.size + 1, 0, none⟩ x).frozen? ⟨w.heap.size + 1, 1, none⟩ = _ := fun x => frozen_cells (set_0 (u := x) HS9.out.2.2.2.1) 1
        have HF := Lib.hid (HS9.out.done (.int .i64 kind) (.slice A8 ys.length c8) hB)
        go_wp2
        obtain ⟨t1, t2, t3, t4, t5, t6, -⟩ := deed_set2 HS9.out.2.2.2.1 (.int .i64 kind) (.slice A8 ys.length c8)
        refine bodyPost_ret (v := .agg #[.int .i64 kind, .slice A8 ys.length c8]) (by simp [results, Tryz.results28, go_sem, t5, t6]) rfl ?_
        exact ⟨kind, A8, c8, ys, rfl, HF.out.1, ⟨k0, k9⟩, HLy.out.1, HLy.out.2, HF.out.2.1, HF.out.2.2⟩
end Go.Proofs.YtnalcgcdohlfiaaGreatDoor
