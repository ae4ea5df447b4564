/- What is proved: DrawDeskDo draws a desk and a deed (if l20Deed draws a deed). Conditions: those of each contract. -/
import Derived.Test.YtnalcgcdohlfiaaGreatDoorDsk
import Derived.Test.YtnalcgcdohlfiaaGreatDoorPc
import Derived.Deep.RegionLaw
namespace Go.Proofs.YtnalcgcdohlfiaaGreatDoor
open Go.RowKit
/-- a desk drawn in block m5, the results' two blocks with what stands in them -/
def KK (w : World) (B g m5 : Nat) (A : Option Addr) (c : Nat) (Bp : Option Addr) (d : Nat) (D : List (List Int)) (L : List (List (List Int))) (x y p q : Value) (W : World) : Prop :=
  (Ext w W ∧ w.heap.size ≤ g ∧ w.heap.size + 2 ≤ B ∧ B ≤ m5 ∧ B ≤ W.heap.size ∧ g < B ∧ w.heap.size + 1 < g) ∧ From B W (fun W => Mat W A c D ∧ MatS W Bp d L) ∧ W.heap[m5]? = some (.cells #[.slice A D.length c, .slice Bp L.length d] 26 (0, 0)) ∧
    W.heap[w.heap.size]? = some (.cells #[x, y] 26 (0, 0)) ∧ W.heap[w.heap.size + 1]? = some (.cells #[p, q] 54 (0, 0))
section
variable {w W W' : World} {B g m5 : Nat} {A : Option Addr} {c : Nat} {Bp : Option Addr} {d : Nat} {D : List (List Int)} {L : List (List (List Int))} {u : Int} {x y p q : Value}
theorem KK.drew (h : KK w B g m5 A c Bp d D L x y p q W) : KK w B g m5 A c Bp d D L x y p q W.drew := ⟨⟨h.1.1.drew', h.1.2⟩, h.2⟩
theorem KK.set (h : KK w B g m5 A c Bp d D L x y p q W) {m : Nat} (hm : w.heap.size ≤ m ∧ m < w.heap.size + 2) (j : Nat) (v : Value) {x' y' p' q' : Value}
    (h8 : (W.setCell ⟨m, j, none⟩ v).heap[w.heap.size]? = some (.cells #[x', y'] 26 (0, 0))) (h9 : (W.setCell ⟨m, j, none⟩ v).heap[w.heap.size + 1]? = some (.cells #[p', q'] 54 (0, 0))) :
    KK w B g m5 A c Bp d D L x' y' p' q' (W.setCell ⟨m, j, none⟩ v) := by
  obtain ⟨⟨h1, h2, h3, h4, h5, h6, h6'⟩, hF, h7, -⟩ := h
  exact ⟨⟨h1.setCell' (p := ⟨m, j, none⟩) hm.1 _, h2, h3, h4, by simpa [World.setCell] using h5, h6, h6'⟩, hF.set (p := ⟨m, j, none⟩) (by show m < B; omega) _, set_far h7 (by show m5 ≠ m; omega), h8, h9⟩
theorem KK.s2 (h : KK w B g m5 A c Bp d D L x y p q W) (a b : Value) : KK w B g m5 A c Bp d D L a b p q ((W.setCell ⟨w.heap.size, 0, none⟩ a).setCell ⟨w.heap.size, 1, none⟩ b) := by
  have h1 := h.set ⟨Nat.le_refl _, by omega⟩ 0 a (set_0 h.2.2.2.1) (set_far h.2.2.2.2 (by show w.heap.size + 1 ≠ w.heap.size; omega))
  exact h1.set ⟨Nat.le_refl _, by omega⟩ 1 b (set_1 h1.2.2.2.1) (set_far h1.2.2.2.2 (by show w.heap.size + 1 ≠ w.heap.size; omega))
theorem KK.t2 (h : KK w B g m5 A c Bp d D L x y p q W) (a b : Value) : KK w B g m5 A c Bp d D L x y a b ((W.setCell ⟨w.heap.size + 1, 0, none⟩ a).setCell ⟨w.heap.size + 1, 1, none⟩ b) := by
  have h1 := h.set (m := w.heap.size + 1) ⟨by omega, by omega⟩ 0 a (set_far h.2.2.2.1 (by show w.heap.size ≠ w.heap.size + 1; omega)) (set_0 h.2.2.2.2)
  exact h1.set ⟨by omega, by omega⟩ 1 b (set_far h1.2.2.2.1 (by show w.heap.size ≠ w.heap.size + 1; omega)) (set_1 h1.2.2.2.2)
theorem KK.deed (h : KK w B g m5 A c Bp d D L x y p q W) (k : ExtG g W W') : KK w B g m5 A c Bp d D L x y p q W' := by
  obtain ⟨⟨h1, h2, h3, h4, h5, h6, h6'⟩, hF, h7, h8, h9⟩ := h
  exact ⟨⟨k.ext h1 h2, h2, h3, h4, by have := k.size; omega, h6, h6'⟩, hF.g k h6, (k.2.2.2.2 _ (heap_lt h7) (by omega)).trans h7, (k.2.2.2.2 _ (heap_lt h8) (by omega)).trans h8, (k.2.2.2.2 _ (heap_lt h9) (by omega)).trans h9⟩
theorem KK.under (h : KK w B g m5 A c Bp d D L x y p q W) : Under W.heap.size g W A c D := fun W' hW => (h.2.1 W' fun k k1 k2 => hW k k2 (by have := h.1.2.2.2.2.2.1; omega)).1
/-- the reader, where a block that holds no bytes is stored to -/
theorem RdU.s2 {m : Nat} {T : TypeId} (h : RdU W B g u) (hb : W.heap[m]? = some (.cells #[x, y] T (0, 0))) (hm : m ≠ g) (hx : ∀ k, x ≠ .int .u8 k) (hy : ∀ k, y ≠ .int .u8 k) (a b : Value) :
    RdU ((W.setCell ⟨m, 0, none⟩ a).setCell ⟨m, 1, none⟩ b) B g u := by
  obtain ⟨p, hp, Ab, n, cb, bk, o, h1, h2, h3, h4, h5, h6, h7, h8, h9⟩ := h
  have hq : ∀ q, q ≠ m → ((W.setCell ⟨m, 0, none⟩ a).setCell ⟨m, 1, none⟩ b).heap[q]? = W.heap[q]? := fun q hq =>
    (Below.heap_setCell _ _ _ _ (by show q ≠ m; exact hq)).trans (Below.heap_setCell _ _ _ _ (by show q ≠ m; exact hq))
  refine ⟨p, hp, Ab, n, cb, bk, o, h1, h2, h3, h4, (hq g (fun e => hm e.symm)).trans h5, h6, h7, h8, fun k hk => ?_⟩
  obtain ⟨z, e, z0, z1⟩ := h9 k hk
  have hne : bk ≠ m := by
    intro e2
    subst e2
    rw [cell_cells hb] at e
    rcases Nat.lt_or_ge (o + k) 1 with q | q
    · have q0 : o + k = 0 := by omega
      rw [q0] at e
      simp at e
      exact hx z e
    · rcases Nat.lt_or_ge (o + k) 2 with r | r
      · have q0 : o + k = 1 := by omega
        rw [q0] at e
        simp at e
        exact hy z e
      · rw [List.getElem?_toArray, List.getElem?_eq_none (by simpa using r)] at e
        exact absurd e (by simp)
  exact ⟨z, (cell_of_heap (hq bk hne)).trans e, z0, z1⟩
end
theorem two_set {m : Nat} {w : World} {x y : Value} {T : TypeId} (hb : w.heap[m]? = some (.cells #[x, y] T (0, 0))) (u _v : Value) :
    w.cell? ⟨m, 0, none⟩ = some x ∧ w.frozen? ⟨m, 0, none⟩ = false ∧ (w.setCell ⟨m, 0, none⟩ u).cell? ⟨m, 1, none⟩ = some y ∧ (w.setCell ⟨m, 0, none⟩ u).frozen? ⟨m, 1, none⟩ = false := by
  have s0 := set_0 (u := u) hb
  exact ⟨by rw [cell_cells hb]; rfl, frozen_cells hb 0, by rw [cell_cells s0]; rfl, frozen_cells s0 1⟩
def KI (w : World) (B g m5 : Nat) (A : Option Addr) (c : Nat) (Bp : Option Addr) (d : Nat) (D : List (List Int)) (L : List (List (List Int))) (x y p q : Value) (X : Option Addr) (cx : Nat) (xs : List Int) (W : World) : Prop :=
  KK w B g m5 A c Bp d D L x y p q W ∧ From B W (fun W => Ints W X cx xs)
section
variable {w W : World} {B g m5 : Nat} {A : Option Addr} {c : Nat} {Bp : Option Addr} {d : Nat} {D : List (List Int)} {L : List (List (List Int))} {x y p q : Value} {X : Option Addr} {cx : Nat} {xs : List Int}
theorem KI.s2 (h : KI w B g m5 A c Bp d D L x y p q X cx xs W) (a b : Value) : KI w B g m5 A c Bp d D L a b p q X cx xs ((W.setCell ⟨w.heap.size, 0, none⟩ a).setCell ⟨w.heap.size, 1, none⟩ b) := by
  have hb := h.1.1.2.2.1
  exact ⟨h.1.s2 a b, (h.2.set (p := ⟨w.heap.size, 0, none⟩) (by show w.heap.size < B; omega) _).set (p := ⟨w.heap.size, 1, none⟩) (by show w.heap.size < B; omega) _⟩
theorem KI.t2 (h : KI w B g m5 A c Bp d D L x y p q X cx xs W) (a b : Value) : KI w B g m5 A c Bp d D L x y a b X cx xs ((W.setCell ⟨w.heap.size + 1, 0, none⟩ a).setCell ⟨w.heap.size + 1, 1, none⟩ b) := by
  have hb := h.1.1.2.2.1
  exact ⟨h.1.t2 a b, (h.2.set (p := ⟨w.heap.size + 1, 0, none⟩) (by show w.heap.size + 1 < B; omega) _).set (p := ⟨w.heap.size + 1, 1, none⟩) (by show w.heap.size + 1 < B; omega) _⟩
end
/-- what DrawDeskDo hands back -/
def DrawnDo (w : World) (e : Ending) (w' : World) : Prop :=
  ∃ A c Bp d D L kind X cx xs, e = .returned (.tuple #[.agg #[.slice A (List.length D) c, .slice Bp (List.length L) d], .agg #[.int .i64 kind, .slice X (List.length xs) cx]]) ∧ Mat w' A c D ∧ MatS w' Bp d L ∧ Ints w' X cx xs ∧ Ext w w'
theorem OwnI.from_ {b : Nat} {w : World} {A : Option Addr} {n c : Nat} {xs : List Int} (h : OwnI b w (.slice A n c) xs) : From b w (fun W => Ints W A c xs) := fun _ hW =>
  (OwnI.ints (h.keep fun q hq hlt => hW q (h.ge hq).1 hlt)).2
end Go.Proofs.YtnalcgcdohlfiaaGreatDoor
