/- What is proved: l20Far draws a square of distances in memory of its own; l20Closed shortens it in place. Conditions: those of each contract. -/
import Derived.Test.YtbkefojepelggaaObj
import Derived.StillTailTactics
namespace Go.Proofs.Ytbkefojepelggaa
open Go.RowKit
theorem ix_rep (n j : Nat) : ix (List.replicate n (0 : Int)) j = 0 := by
  unfold ix
  by_cases h : j < n
  · simp [List.getD, h]
  · simp [List.getD, List.getElem?_eq_none (show (List.replicate n (0 : Int)).length ≤ j by simp; omega)]
theorem zero_leaf (W : World) (n : Nat) (hn : n ≤ 1000) : Leaf (W.alloc (.cells (madeCells #[.int .i64 0] n) 3)) (.slice (some ⟨W.heap.size, 0, none⟩) n n) (List.replicate n (0 : Int)) :=
  Leaf.of_row ((World.rowIs_made W (.int .i64 0) n 3).congr (fun j _ => by rw [ix_rep])) (by simp) (Nat.le_refl _) (by unfold maxLen; omega)
/-- i rows of n zeros, collected -/
def AccZ (w0 W : World) (v : Value) (i n : Nat) : Prop := ∃ V, AccM w0 W v (List.replicate i (List.replicate n (0 : Int))) V ∧ ∀ j, j < i → FullV W (V j) n
theorem AccZ.x {w0 W : World} {v : Value} {i n : Nat} (h : AccZ w0 W v i n) : Ext w0 W := by
  obtain ⟨V, h1, _⟩ := h
  exact h1.x
theorem AccZ.push {P : Program} {ops : Array Oper} {rest : List Oper} {o : Oper} {a : Act} {Q : Exit → Act → World → Prop} {w0 W : World} {T E : TypeId} {i n : Nat} (hE : E = 31)
    (ht : P.underlying T = some (.slice E)) (hinfo : (P.info? E).map (fun i => (i.zero, i.size, i.bytes)) = some (some (.slice none 0 0), 1, 24))
    (hgd : o.guard = none) (s x : Operand) (ho : o.op = .call { callee := .builtin .append, args := #[s, x], argTypes := #[T, T] })
    (v : Value) (hs : a.eval s = v) (hx : a.eval x = .slice (some ⟨W.heap.size + 1, 0, none⟩) 1 1) (h : AccZ w0 W v i n) (h0 : 0 < n) (hn : n ≤ 1000) (hi : i ≤ 1000)
    (hk : ∀ v' w', AccZ w0 w' v' (i + 1) n → wpList P ops Q rest (a.put o.dst v') w') :
    wpList P ops Q (o :: rest) a ((W.alloc (.cells (madeCells #[.int .i64 0] n) 3)).alloc (.cells #[.slice (some ⟨W.heap.size, 0, none⟩) n n] E)) := by
  subst hE
  obtain ⟨V, h1, h2⟩ := h
  have hlt : ∀ j, j < i → ∀ g ∈ lb (V j), g < W.heap.size := fun j hj g hg => (h1.2.1 j (by simpa using hj)).lt hg
  have hx0 := h1.x.size
  have hl : (List.replicate i (List.replicate n (0 : Int))).length = i := by simp
  obtain ⟨hA, g2, g3, g4⟩ := h1.on (Ext.alloc W (.cells (madeCells #[.int .i64 0] n) 3))
  have hleaf := zero_leaf W n hn
  have hfull : FullV (W.alloc (.cells (madeCells #[.int .i64 0] n) 3)) (.slice (some ⟨W.heap.size, 0, none⟩) n n) n := ⟨W.heap.size, _, rfl, heap_alloc_new W _, by simp [madeCells]⟩
  refine wp_app ht hinfo rfl (by decide) hgd s x ho v (.slice (some ⟨W.heap.size, 0, none⟩) n n) _ hs (by rw [hx]; simp) rfl hA (by simp; omega) fun v' w' ha hb _ => hk v' w' ⟨fun j => if j = i then .slice (some ⟨W.heap.size, 0, none⟩) n n else V j, ⟨?_, fun j hj => ?_, fun j k hj hk hjk g hg hg' => ?_, fun j hj g hg => ?_⟩, fun j hj => ?_⟩
  · have e : (List.range (List.replicate (i + 1) (List.replicate n (0 : Int))).length).map (fun j => if j = i then Value.slice (some ⟨W.heap.size, 0, none⟩) n n else V j) = (List.range (List.replicate i (List.replicate n (0 : Int))).length).map V ++ [.slice (some ⟨W.heap.size, 0, none⟩) n n] := by
      rw [List.length_replicate, List.length_replicate, List.range_succ, List.map_append]
      congr 1
      · refine List.map_congr_left fun j hj => ?_
        have := List.mem_range.1 hj
        rw [if_neg (by omega)]
      · simp
    rw [e]; exact ha
  · rw [List.length_replicate] at hj
    have er : row (List.replicate (i + 1) (List.replicate n (0 : Int))) j = List.replicate n 0 := by rw [row_of (by simp; omega)]; simp
    rw [er]
    by_cases e : j = i
    · simp only [if_pos e]; exact hb.leaf hA.2 (by decide) hleaf
    · simp only [if_neg e]
      have hlj := g2 j (by simp; omega)
      rw [show row (List.replicate i (List.replicate n (0 : Int))) j = List.replicate n 0 by rw [row_of (by simp; omega)]; simp] at hlj
      exact hb.leaf hA.2 (by decide) hlj
  · rw [List.length_replicate] at hj hk
    have hnew : ∀ g, g ∈ lb (.slice (some ⟨W.heap.size, 0, none⟩) n n) → g = W.heap.size := fun g hg => by
      obtain ⟨m, rfl⟩ : ∃ m, n = m + 1 := ⟨n - 1, by omega⟩
      simpa [lb] using hg
    by_cases e : j = i
    · simp only [if_pos e] at hg
      have e2 : ¬ k = i := fun q => hjk (e.trans q.symm)
      simp only [if_neg e2] at hg'
      have := hnew g hg
      have := hlt k (by omega) g hg'
      omega
    · simp only [if_neg e] at hg
      by_cases e2 : k = i
      · simp only [if_pos e2] at hg'
        have := hnew g hg'
        have := hlt j (by omega) g hg
        omega
      · simp only [if_neg e2] at hg'
        exact g3 j k (by simp; omega) (by simp; omega) hjk g hg hg'
  · rw [List.length_replicate] at hj
    by_cases e : j = i
    · simp only [if_pos e] at hg
      obtain ⟨m, rfl⟩ : ∃ m, n = m + 1 := ⟨n - 1, by omega⟩
      have : g = W.heap.size := by simpa [lb] using hg
      omega
    · simp only [if_neg e] at hg
      exact g4 j (by simp; omega) g hg
  · by_cases e : j = i
    · simp only [if_pos e]
      obtain ⟨q, cs, eq, hq, hn'⟩ := hfull
      exact ⟨q, cs, eq, hb.block hA.2 (by decide) hq, hn'⟩
    · simp only [if_neg e]
      obtain ⟨q, cs, eq, hq, hn'⟩ := h2 j (by omega)
      exact ⟨q, cs, eq, hb.block hA.2 (by decide) ((Ext.block (Ext.alloc W _) (heap_lt hq)).trans hq), hn'⟩
theorem AccZ.obj {w0 W : World} {v : Value} {n : Nat} (h : AccZ w0 W v n n) : ∃ A c V, v = .slice A n c ∧ ObjF w0.heap.size W A c n (List.replicate n (List.replicate n (0 : Int))) V := by
  obtain ⟨V, h1, h2⟩ := h
  obtain ⟨A, c, e, ho⟩ := h1.obj
  rw [List.length_replicate] at e
  refine ⟨A, c, V, e, ho, fun i hi => ?_, by simp, h2⟩
  rw [List.length_replicate] at hi
  rw [row_of (by simp; omega)]
  simp
theorem rep_bd (n : Nat) : BdN 0 30 n (List.replicate n (List.replicate n (0 : Int))) := fun i hi j hj => by
  have : at2 (List.replicate n (List.replicate n (0 : Int))) i j = 0 := by
    unfold at2
    rw [row_of (by simp; omega)]
    simp [ix_rep]
  omega
/-- one of the four widths -/
theorem wide_cell {W W' : World} {g : Nat} {v : Int} (h : Only (fun x => x = g) (W.alloc (.cells #[.int .i64 2, .int .i64 5, .int .i64 12, .int .i64 30] 3)) W') (hg : g < W.heap.size) (h0 : 0 ≤ v) (h1 : v < 4 ∨ v = 0) :
    ∃ x : Int, W'.cell? ⟨W.heap.size, v.toNat, none⟩ = some (.int .i64 x) ∧ 1 ≤ x ∧ x ≤ 30 := by
  have hb : W'.heap[W.heap.size]? = some (.cells #[.int .i64 2, .int .i64 5, .int .i64 12, .int .i64 30] 3 (0, 0)) := by
    rw [h.2.2.2.2 W.heap.size (by omega)]
    exact heap_alloc_new W _
  rw [cell_cells hb]
  rcases (show v = 0 ∨ v = 1 ∨ v = 2 ∨ v = 3 by omega) with rfl | rfl | rfl | rfl
  · exact ⟨2, rfl, by omega, by omega⟩
  · exact ⟨5, rfl, by omega, by omega⟩
  · exact ⟨12, rfl, by omega, by omega⟩
  · exact ⟨30, rfl, by omega, by omega⟩
/-- what the draws of a square leave -/
def FarO (w : World) (B g : Nat) (u : Int) (e : Ending) (w' : World) : Prop :=
  ∃ b c n V D, e = .returned (.slice (some ⟨b, 0, none⟩) n c) ∧ 1 ≤ n ∧ n ≤ 6 ∧ ObjF w.heap.size w' (some ⟨b, 0, none⟩) c n D V ∧ BdN 0 30 n D ∧ RdU w' B g u ∧ ExtG g w w'
/-- the state of the filling loops -/
def FarS (w : World) (B g b c n : Nat) (V : Nat → Value) (u : Int) (wr : World) : Prop :=
  ∃ D, ObjF w.heap.size wr (some ⟨b, 0, none⟩) c n D V ∧ BdN 0 30 n D ∧ RdU wr B g u ∧ ExtG g w wr

/-- the state of the shortening loops -/
def ShS (w : World) (base b c n : Nat) (V : Nat → Value) (wr : World) : Prop :=
  ∃ D, ObjF base wr (some ⟨b, 0, none⟩) c n D V ∧ BdN 0 30 n D ∧ Below base w wr
end Go.Proofs.Ytbkefojepelggaa
