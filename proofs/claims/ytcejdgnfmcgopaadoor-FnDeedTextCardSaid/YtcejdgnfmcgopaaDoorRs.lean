/- What is proved: spec.ReadDeed. Conditions: those of each contract. -/
import Derived.Test.YtcejdgnfmcgopaaDoorDt
import Derived.Test.YtcejdgnfmcgopaaDoorRc
import Derived.Test.YtcejdgnfmcgopaaDoorPa
import Derived.Deep.DeepCutAuto
import Derived.Deep.CutBlock
namespace Go.Proofs.YtcejdgnfmcgopaaDoor
open Go.RowKit
/-- a row of texts to be read -/
def Txts (w : World) (A : Option Addr) (c : Nat) (ps : List (List UInt8)) : Prop :=
  ps.length ≤ c ∧ c ≤ maxLen ∧ ∃ b o, (0 < ps.length → A = some ⟨b, o, none⟩ ∧ ∃ cs, w.heap[b]? = some (.cells cs 9 (0, 0))) ∧ ∀ i, i < ps.length → w.cell? ⟨b, o + i, none⟩ = some (tx (ps.getD i []))
theorem Txts.ext {w w' : World} {A : Option Addr} {c : Nat} {ps : List (List UInt8)} (h : Txts w A c ps) (k : Ext w w') : Txts w' A c ps := by
  obtain ⟨h1, h2, b, o, h3, h4⟩ := h
  refine ⟨h1, h2, b, o, fun q => ?_, fun i hi => k.cell (h4 i hi)⟩
  obtain ⟨e, cs, hb⟩ := h3 q
  exact ⟨e, cs, (k.block (heap_lt hb)).trans hb⟩
theorem Txts.beside {w w' : World} {A : Option Addr} {c : Nat} {ps : List (List UInt8)} {v : Value} {base : Nat} {E : TypeId} {n : Nat} {xs : List Value} (h : Txts w A c ps) (k : Beside v w w') (ho : w.ownsRow base E 1 v n xs) (hE : E ≠ 9) : Txts w' A c ps := by
  obtain ⟨h1, h2, b, o, h3, h4⟩ := h
  by_cases h0 : 0 < ps.length
  · obtain ⟨e, cs, hb⟩ := h3 h0
    have hb' := k.block ho hE hb
    exact ⟨h1, h2, b, o, fun q => ⟨e, cs, hb'⟩, fun i hi => by
      have := h4 i hi
      rw [cell_cells hb] at this
      rw [cell_cells hb']
      exact this⟩
  · exact ⟨h1, h2, b, o, fun q => absurd q h0, fun i hi => absurd hi (by omega)⟩
theorem Acc.texts {w w' : World} {v : Value} {ps : List (List UInt8)} (h : Acc w w' 9 v (ps.map tx)) : ∃ A c, v = .slice A ps.length c ∧ Txts w' A c ps := by
  obtain ⟨-, -, h2⟩ := h
  rcases h2 with ⟨rfl, h0⟩ | ⟨g, cap, cur, rfl, hb, hg, hcap, hm, hs, ht⟩
  · rw [List.length_map] at h0
    exact ⟨none, 0, by rw [h0], by omega, Nat.zero_le _, 0, 0, fun q => absurd q (by omega), fun i hi => absurd hi (by omega)⟩
  · rw [List.length_map] at hcap ht ⊢
    refine ⟨_, cap, rfl, hcap, hm, g, 0, fun _ => ⟨rfl, cur, hg⟩, fun i hi => ?_⟩
    rw [Nat.zero_add, cell_cells hg]
    have e : (cur.toList.take (ps.length * 1))[i]? = (ps.map tx)[i]? := by rw [ht]
    rw [List.getElem?_take, if_pos (by omega)] at e
    rw [← Array.getElem?_toList, e]
    simp [hi]
theorem piece_len (sep : UInt8) (L : List UInt8) : ∀ p ∈ pieces sep L, p.length ≤ L.length := by
  induction L with
  | nil => intro p hp; simp [pieces] at hp; subst hp; simp
  | cons c r ih =>
    intro p hp
    unfold pieces at hp
    split at hp
    · rcases List.mem_cons.1 hp with e | e
      · subst e; simp
      · have := ih p e; simp only [List.length_cons]; omega
    · cases hq : pieces sep r with
      | nil => exact absurd hq (pieces_ne _ _)
      | cons a l =>
        rw [hq] at hp ih
        rcases List.mem_cons.1 hp with e | e
        · have := ih a (List.mem_cons_self)
          rw [e, List.length_append]
          simp only [List.length_cons, List.length_nil]
          omega
        · have := ih p (List.mem_cons_of_mem _ e)
          simp only [List.length_cons]
          omega
theorem store2 {W : World} {g : Nat} {a b : Value} {T : TypeId} (hb : W.heap[g]? = some (.cells #[a, b] T (0, 0))) (x y : Value) :
    (W.cell? ⟨g, 0, none⟩ = some a ∧ W.frozen? ⟨g, 0, none⟩ = false) ∧ W.cell? ⟨g, 1, none⟩ = some b ∧ ((W.setCell ⟨g, 0, none⟩ x).cell? ⟨g, 1, none⟩ = some b ∧ (W.setCell ⟨g, 0, none⟩ x).frozen? ⟨g, 1, none⟩ = false) ∧ W.frozen? ⟨g, 1, none⟩ = false ∧
      ((W.setCell ⟨g, 0, none⟩ x).setCell ⟨g, 1, none⟩ y).cell? ⟨g, 0, none⟩ = some x ∧ ((W.setCell ⟨g, 0, none⟩ x).setCell ⟨g, 1, none⟩ y).cell? ⟨g, 1, none⟩ = some y := by
  obtain ⟨c0, c1⟩ := two_cells hb
  have s0 := set_0 (u := x) hb
  have s1 := set_1 (u := y) s0
  obtain ⟨d0, d1⟩ := two_cells s0
  obtain ⟨e0, e1⟩ := two_cells s1
  exact ⟨⟨c0, frozen_cells hb 0⟩, c1, ⟨d1, frozen_cells s0 1⟩, frozen_cells hb 1, e0, e1⟩
/-- the numbers of a text of two words -/
def rlist (L : List UInt8) : List Int := if (pieces 32 L).length = 2 then (pieces 44 ((pieces 32 L).getD 1 [])).map dgt else []
def rfirst (L : List UInt8) (xs : List Int) : Nat → Nat → Option (Int × List Int)
  | 0, _ => none
  | g + 1, k => if L ≠ [] ∧ dtx k xs = L then some ((k : Int), xs) else rfirst L xs g (k + 1)
/-- the deed of a text -/
def rdS (L : List UInt8) : Option (Int × List Int) := rfirst L (rlist L) 5 0
def rk : Option (Int × List Int) → Int
  | none => 0
  | some p => p.1
def rx : Option (Int × List Int) → List Int
  | none => []
  | some p => p.2
/-- what a deed that has been read leaves -/
def RdE (w : World) (r : Option (Int × List Int)) (e : Ending) (w' : World) : Prop :=
  ∃ v, e = .returned (.tuple #[.agg #[.int .i64 (rk r), v], .bool r.isSome]) ∧ Leaf w' v (rx r) ∧ (∀ g ∈ lb v, w.heap.size ≤ g) ∧ Ext w w'
end Go.Proofs.YtcejdgnfmcgopaaDoor
