/- What is proved: words and laws for a slice of rows that a call makes for itself, row by row. Conditions: sizes. -/
import Derived.Test.YtjpgjmhdjepfgaaDoorMark
namespace Go.Proofs.YtjpgjmhdjepfgaaDoor
open Go.RowKit

/-- what a call that began in the world w0 has collected so far: the slice v of the rows D, each a leaf of its own -/
def AccM (w0 W : World) (v : Value) (D : List (List Int)) (V : Nat → Value) : Prop :=
  Acc w0 W 22 v ((List.range D.length).map V) ∧ (∀ i, i < D.length → Leaf W (V i) (row D i)) ∧ Dis D.length V ∧ (∀ i, i < D.length → ∀ g ∈ lb (V i), w0.heap.size ≤ g)
theorem AccM.x {w0 W : World} {v : Value} {D : List (List Int)} {V : Nat → Value} (h : AccM w0 W v D V) : Ext w0 W := h.1.x
theorem AccM.on {w0 W W' : World} {v : Value} {D : List (List Int)} {V : Nat → Value} (h : AccM w0 W v D V) (k : Ext W W') : AccM w0 W' v D V :=
  ⟨h.1.on k, fun i hi => (h.2.1 i hi).ext k, h.2.2.1, h.2.2.2⟩
theorem AccM.empty {w0 w : World} (h : Ext w0 w) (V : Nat → Value) : AccM w0 (w.alloc (.cells #[] 22)) (.slice (some ⟨w.heap.size, 0, none⟩) 0 0) [] V :=
  ⟨Acc.empty _ h, fun i hi => absurd hi (by simp), fun i j hi => absurd hi (by simp), fun i hi => absurd hi (by simp)⟩
theorem AccM.nil {w0 w : World} (h : Ext w0 w) (V : Nat → Value) : AccM w0 w (.slice none 0 0) [] V :=
  ⟨Acc.nil _ h, fun i hi => absurd hi (by simp), fun i j hi => absurd hi (by simp), fun i hi => absurd hi (by simp)⟩
theorem AccM.done {w0 W : World} {v : Value} {D : List (List Int)} {V : Nat → Value} (h : AccM w0 W v D V) : FreshM w0 D (.returned v) W := by
  obtain ⟨⟨hx, hl, ho⟩, h2, h3, h4⟩ := h
  rcases ho with ⟨rfl, h0⟩ | ⟨g, cap, cur, rfl, hb, hg, hc, hm, hs, ht⟩
  · have : D.length = 0 := by simpa using h0
    have : D = [] := List.eq_nil_of_length_eq_zero this
    subst this
    exact ⟨none, 0, V, rfl, ⟨Nat.le_refl _, Nat.zero_le _, 0, 0, fun h => absurd h (by simp), fun i hi => absurd hi (by simp)⟩, h3, h4, hx⟩
  · simp only [List.length_map, List.length_range, Nat.mul_one] at hc ht
    refine ⟨some ⟨g, 0, none⟩, cap, V, by simp, ⟨hc, hm, g, 0, fun _ => ⟨rfl, cur, (0, 0), hg⟩, fun i hi => ⟨?_, h2 i hi⟩⟩, h3, h4, hx⟩
    have e : (cur.toList.take D.length)[i]? = ((List.range D.length).map V)[i]? := by rw [ht]
    rw [List.getElem?_take, if_pos hi] at e
    rw [Nat.zero_add, cell_cells hg, ← Array.getElem?_toList, e]
    simp [hi]
theorem row_app {D : List (List Int)} {r : List Int} {i : Nat} : row (D ++ [r]) i = if i = D.length then r else row D i := by
  unfold row
  by_cases h : i < D.length
  · rw [if_neg (by omega)]; simp [List.getD, List.getElem?_append_left h]
  · by_cases e : i = D.length
    · subst e; simp
    · rw [if_neg e]
      have h1 : (D ++ [r])[i]? = none := List.getElem?_eq_none (by simp; omega)
      have h2 : D[i]? = none := List.getElem?_eq_none (by omega)
      simp [List.getD, h1, h2]

/-- ONE ROW MORE: 'out = append(out, r)', r a leaf of its own -/
theorem wp_appM {P : Program} {ops : Array Oper} {rest : List Oper} {o : Oper} {a : Act} {Q : Exit → Act → World → Prop} {w0 W : World} {T E : TypeId} (hE : E = 22)
    (ht : P.underlying T = some (.slice E)) (hinfo : (P.info? E).map (fun i => (i.zero, i.size, i.bytes)) = some (some (.slice none 0 0), 1, 24))
    (hgd : o.guard = none) (s x : Operand) (ho : o.op = .call { callee := .builtin .append, args := #[s, x], argTypes := #[T, T] })
    (v u : Value) (D : List (List Int)) (r : List Int) (V : Nat → Value) (hs : a.eval s = v) (hx : a.eval x = .slice (some ⟨W.heap.size, 0, none⟩) 1 1) (hu : u.oneCell' = true) (hX : AccM w0 W v D V)
    (hr : Leaf W u r) (hfr : ∀ g ∈ lb u, w0.heap.size ≤ g ∧ ∀ i, i < D.length → g ∉ lb (V i)) (hl : D.length ≤ 10000000)
    (h : ∀ v' w', AccM w0 w' v' (D ++ [r]) (fun i => if i = D.length then u else V i) → wpList P ops Q rest (a.put o.dst v') w') : wpList P ops Q (o :: rest) a (W.alloc (.cells #[u] E)) := by
  subst hE
  obtain ⟨hA, h2, h3, h4⟩ := hX
  refine wp_app ht hinfo rfl (by decide) hgd s x ho v u _ hs hx hu hA (by simpa using hl) fun v' w' ha hb _ => h v' w' ⟨?_, fun i hi => ?_, fun i j hi hj hij g hg hg' => ?_, fun i hi g hg => ?_⟩
  · have e : (List.range (D ++ [r]).length).map (fun i => if i = D.length then u else V i) = (List.range D.length).map V ++ [u] := by
      rw [List.length_append, List.length_singleton, List.range_succ, List.map_append]
      congr 1
      · refine List.map_congr_left fun i hi => ?_
        have := List.mem_range.1 hi
        rw [if_neg (by omega)]
      · simp
    rw [e]; exact ha
  · simp only [List.length_append, List.length_singleton] at hi
    rw [row_app]
    by_cases e : i = D.length
    · simp only [if_pos e]; exact hb.leaf hA.2 (by decide) hr
    · simp only [if_neg e]; exact hb.leaf hA.2 (by decide) (h2 i (by omega))
  · simp only [List.length_append, List.length_singleton] at hi hj
    by_cases e : i = D.length
    · simp only [if_pos e] at hg
      by_cases e2 : j = D.length
      · omega
      · simp only [if_neg e2] at hg'
        exact (hfr g hg).2 j (by omega) hg'
    · simp only [if_neg e] at hg
      by_cases e2 : j = D.length
      · simp only [if_pos e2] at hg'
        exact (hfr g hg').2 i (by omega) hg
      · simp only [if_neg e2] at hg'
        exact h3 i j (by omega) (by omega) hij g hg hg'
  · simp only [List.length_append, List.length_singleton] at hi
    by_cases e : i = D.length
    · simp only [if_pos e] at hg; exact (hfr g hg).1
    · simp only [if_neg e] at hg; exact h4 i (by omega) g hg

/-- a row written out in a new block -/
theorem leaf_new {W : World} {cs : Array Value} {xs : List Int} (hc : ∀ j, j < xs.length → cs[j]? = some (.int .i64 (ix xs j))) (hn : xs.length ≤ 1000) : Leaf (W.alloc (.cells cs 3)) (.slice (some ⟨W.heap.size, 0, none⟩) xs.length xs.length) xs :=
  ⟨_, _, rfl, Nat.le_refl _, by unfold maxLen; omega, fun _ => ⟨W.heap.size, cs, rfl, heap_alloc_new W _, hc⟩⟩
theorem leaf_two (W : World) (x y : Int) : Leaf (W.alloc (.cells #[.int .i64 x, .int .i64 y] 3)) (.slice (some ⟨W.heap.size, 0, none⟩) 2 2) [x, y] :=
  leaf_new (xs := [x, y]) (fun j hj => by
    match j, hj with
    | 0, _ => rfl
    | 1, _ => rfl) (by show 2 ≤ 1000; decide)
end Go.Proofs.YtjpgjmhdjepfgaaDoor
