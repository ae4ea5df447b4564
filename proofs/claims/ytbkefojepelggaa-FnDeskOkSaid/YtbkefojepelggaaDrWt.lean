/- What is proved: l20Weighted draws rows and weights. Conditions: those of the contract. -/
import Derived.Test.YtbkefojepelggaaDrTree
import Derived.Test.YtbkefojepelggaaOpen
namespace Go.Proofs.Ytbkefojepelggaa
open Go.RowKit
theorem OwnI.len {base : Nat} {W : World} {v : Value} {xs : List Int} (h : OwnI base W v xs) : ∃ A c, v = .slice A xs.length c ∧ xs.length ≤ c ∧ c ≤ maxLen := by
  obtain ⟨A, c, e, hI⟩ := h.leaf.1.ints
  exact ⟨A, c, e, hI.1, hI.2.1⟩
/-- a number of the list turned -/
theorem OwnI.set {base n : Nat} {W : World} {A : Option Addr} {c : Nat} {xs : List Int} (h : OwnI base W (.slice A n c) xs) {j : Nat} (hj : j < xs.length) :
    ∃ q, A = some ⟨q, 0, none⟩ ∧ W.cell? ⟨q, j, none⟩ = some (.int .i64 (ix xs j)) ∧ W.frozen? ⟨q, j, none⟩ = false ∧ base ≤ q ∧ ∀ x, OwnI base (W.setCell ⟨q, j, none⟩ (.int .i64 x)) (.slice A n c) (xs.set j x) := by
  obtain ⟨h1, h2⟩ := h
  rcases h2 with ⟨_, h0⟩ | ⟨q, cap, cur, e, hb, hh, hc, hm, hs, ht⟩
  · rw [List.length_map] at h0; omega
  · injection e with e1 e2 e3
    subst e1; subst e2; subst e3
    have hlen : (xs.map (Value.int .i64)).length = xs.length := by simp
    rw [hlen] at ht hc
    have hcj : cur[j]? = some (.int .i64 (ix xs j)) := by
      have e : (cur.toList.take (xs.length * 1))[j]? = (xs.map (Value.int .i64))[j]? := by rw [ht]
      rw [List.getElem?_take, if_pos (by omega)] at e
      rw [← Array.getElem?_toList, e]
      simp [hj, ix_of hj]
    refine ⟨q, rfl, by rw [cell_cells hh, hcj], frozen_cells hh j, hb, fun x => ⟨by simp, .inr ⟨q, c, cur.setIfInBounds j (.int .i64 x), by simp, hb, ?_, by simpa using hc, hm, by simpa using hs, ?_⟩⟩⟩
    · simp [World.setCell, Array.getElem?_modify, hh]
    · have e2 : ((xs.set j x).map (Value.int .i64)).length = xs.length := by simp
      rw [e2, Array.toList_setIfInBounds, List.take_set, ht, List.map_set]
theorem OwnI.ints {base : Nat} {W : World} {A : Option Addr} {n c : Nat} {xs : List Int} (h : OwnI base W (.slice A n c) xs) : n = xs.length ∧ Ints W A c xs := by
  obtain ⟨A', c', e, hI⟩ := h.leaf.1.ints
  injection e with e1 e2 e3
  subst e1; subst e2; subst e3
  exact ⟨rfl, hI⟩
/-- rows that lie below b -/
def Under (b g : Nat) (w : World) (A : Option Addr) (c : Nat) (D : List (List Int)) : Prop := ∀ W : World, (∀ k, k < b → k ≠ g → W.heap[k]? = w.heap[k]?) → Mat W A c D
theorem Under.mat {b g : Nat} {w : World} {A : Option Addr} {c : Nat} {D : List (List Int)} (h : Under b g w A c D) : Mat w A c D := h w fun _ _ _ => rfl
theorem Under.rd {b g : Nat} {w w' : World} {A : Option Addr} {c : Nat} {D : List (List Int)} (h : Under b g w A c D) (k : Only (fun x => x = g) w w') : Under b g w' A c D :=
  fun W hW => h W fun i hi hne => (hW i hi hne).trans (k.2.2.2.2 i hne)
theorem Under.set {b g : Nat} {w : World} {A : Option Addr} {c : Nat} {D : List (List Int)} (h : Under b g w A c D) {p : Addr} (hp : b ≤ p.block) (x : Value) : Under b g (w.setCell p x) A c D :=
  fun W hW => h W fun i hi hne => (hW i hi hne).trans (Below.heap_setCell _ _ _ _ (by omega))
theorem Under.ext {b g : Nat} {w w' : World} {A : Option Addr} {c : Nat} {D : List (List Int)} (h : Under b g w A c D) (hb : b ≤ w.heap.size) (k : Ext w w') : Under b g w' A c D :=
  fun W hW => h W fun i hi hne => (hW i hi hne).trans (k.block (by omega))
theorem ObjM.under {base : Nat} {w w' : World} {A : Option Addr} {c : Nat} {D : List (List Int)} {V : Nat → Value} {g : Nat} (h : ObjM base w A c D V) (hg : g < base) (k : ExtG g w w') : Under w.heap.size g w' A c D :=
  fun W hW => (h.keep fun q hb hq => (hW q hq (by omega)).trans (k.2.2.2.2 q hq (by omega))).mat
/-- rows and numbers drawn -/
def DrawnW (w : World) (B g : Nat) (u : Int) (e : Ending) (w' : World) : Prop :=
  ∃ A c D A2 c2 ws b, e = .returned (.tuple #[.slice A (List.length D) c, .slice A2 (List.length ws) c2]) ∧ Under b g w' A c D ∧ D.length ≤ 6 ∧ w.heap.size ≤ b ∧ b ≤ w'.heap.size ∧ OwnI b w' (.slice A2 ws.length c2) ws ∧ ws.length ≤ 7 ∧ RdU w' B g u ∧ ExtG g w w'
end Go.Proofs.Ytbkefojepelggaa
