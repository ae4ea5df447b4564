/- What is proved: words and laws for a slice that a call makes for itself and appends to, element by element. Conditions: sizes. -/
import Derived.Test.YtjpgjmhdjepfgaaDoorPoint
import Derived.OwnWalk
import Derived.Maps.AppendAt
namespace Go.Proofs.YtjpgjmhdjepfgaaDoor
open Go.RowKit

/-- what a call that began in the world w0 has collected so far: the slice v, of element type E, holds xs -/
def Acc (w0 W : World) (E : TypeId) (v : Value) (xs : List Value) : Prop := Ext w0 W ∧ W.ownsRow w0.heap.size E 1 v xs.length xs

theorem Acc.x {w0 W : World} {E : TypeId} {v : Value} {xs : List Value} (h : Acc w0 W E v xs) : Ext w0 W := h.1
theorem Acc.empty {w0 w : World} (E : TypeId) (h : Ext w0 w) : Acc w0 (w.alloc (.cells #[] E)) E (.slice (some ⟨w.heap.size, 0, none⟩) 0 0) [] :=
  ⟨h.alloc' _, World.ownsRow_made w #[] 0 h.size (Nat.zero_le _) rfl⟩
theorem Acc.nil {w0 w : World} (E : TypeId) (h : Ext w0 w) : Acc w0 w E (.slice none 0 0) [] := ⟨h, World.ownsRow_nil _ _ _ _⟩
theorem own_lt {w : World} {base : Nat} {e : TypeId} {v : Value} {n : Nat} {xs : List Value} (h : w.ownsRow base e 1 v n xs) {g : Nat} (hg : v.ownBlock = some g) : g < w.heap.size := (h.lt g hg).2
theorem Acc.on {w0 W W' : World} {E : TypeId} {v : Value} {xs : List Value} (h : Acc w0 W E v xs) (k : Ext W W') : Acc w0 W' E v xs := by
  obtain ⟨h1, h2⟩ := h
  refine ⟨h1.trans k, h2.1, ?_⟩
  rcases h2.2 with h3 | ⟨g, cap, cur, e1, e2, e3, e4⟩
  · exact .inl h3
  · exact .inr ⟨g, cap, cur, e1, e2, (k.block (heap_lt e3)).trans e3, e4⟩
/-- what stands beside the row that is appended to -/
def Beside (v : Value) (W W' : World) : Prop := W.heap.size ≤ W'.heap.size ∧ ∀ g, g < W.heap.size → some g ≠ v.ownBlock → W'.heap[g]? = W.heap[g]?
theorem Beside.leaf {v : Value} {W W' : World} {base : Nat} {E : TypeId} {n : Nat} {xs : List Value} (h : Beside v W W') (ho : W.ownsRow base E 1 v n xs) (hE : E ≠ 3) {u : Value} {ys : List Int} (hl : Leaf W u ys) : Leaf W' u ys :=
  hl.keep fun g hg => h.2 g (hl.lt hg) fun e => by
    obtain ⟨cs, hb⟩ := hl.blocks g hg
    rcases ho.2 with ⟨rfl, _⟩ | ⟨g', cap, cur, rfl, _, hg', _⟩
    · simp [Value.ownBlock] at e
    · simp [Value.ownBlock] at e
      subst e
      rw [hb] at hg'
      injection hg' with hg'
      injection hg' with _ ht
      exact hE ht.symm
theorem Beside.block {v : Value} {W W' : World} {base : Nat} {E T : TypeId} {n g : Nat} {xs : List Value} {cs : Array Value} {fz : Nat × Nat} (h : Beside v W W') (ho : W.ownsRow base E 1 v n xs) (hE : E ≠ T) (hg : W.heap[g]? = some (.cells cs T fz)) : W'.heap[g]? = some (.cells cs T fz) := by
  rw [h.2 g (heap_lt hg) ?_]
  · exact hg
  · intro e
    rcases ho.2 with ⟨rfl, _⟩ | ⟨g', cap, cur, rfl, _, hg', _⟩
    · simp [Value.ownBlock] at e
    · simp [Value.ownBlock] at e
      subst e
      rw [hg] at hg'
      injection hg' with hg'
      injection hg' with _ ht
      exact hE ht.symm

theorem Beside.leaf' {v : Value} {W W' : World} (h : Beside v W W') {u : Value} {ys : List Int} (hl : Leaf W u ys) (hne : ∀ g ∈ lb u, some g ≠ v.ownBlock) : Leaf W' u ys :=
  hl.keep fun g hg => h.2 g (hl.lt hg) (hne g hg)
/-- where the row lies that has been appended to -/
def Stays (v v' : Value) (n : Nat) : Prop := v'.ownBlock = v.ownBlock ∨ v'.ownBlock = some n

/-- ONE ELEMENT MORE: 'out = append(out, x)' -/
theorem wp_app {P : Program} {ops : Array Oper} {rest : List Oper} {o : Oper} {a : Act} {Q : Exit → Act → World → Prop} {w0 W : World} {T E : TypeId} {z : Value} {bytes : Nat}
    (ht : P.underlying T = some (.slice E)) (hinfo : (P.info? E).map (fun i => (i.zero, i.size, i.bytes)) = some (some z, 1, bytes)) (hz1 : z.cells.size = 1) (hby : bytes ≤ 64)
    (hgd : o.guard = none) (s x : Operand) (ho : o.op = .call { callee := .builtin .append, args := #[s, x], argTypes := #[T, T] })
    (v u : Value) (xs : List Value) (hs : a.eval s = v) (hx : a.eval x = .slice (some ⟨W.heap.size, 0, none⟩) 1 1) (hu : u.oneCell' = true) (hX : Acc w0 W E v xs) (hl : xs.length ≤ 10000000)
    (h : ∀ v' w', Acc w0 w' E v' (xs ++ [u]) → Beside v W w' → Stays v v' (W.heap.size + 1) → wpList P ops Q rest (a.put o.dst v') w') : wpList P ops Q (o :: rest) a (W.alloc (.cells #[u] E)) := by
  obtain ⟨i0, hi, hz, hsz, hb⟩ := info_parts hinfo
  obtain ⟨hx0, hown⟩ := hX
  have hnews : ∀ j y, [u][j]? = some y → (W.alloc (.cells #[u] E)).cell? ((⟨W.heap.size, 0, none⟩ : Addr).add j) = some y := by
    intro j y hj
    cases j with
    | zero =>
      simp at hj
      subst hj
      have hn := heap_alloc_new W (.cells #[u] E)
      show (W.alloc (.cells #[u] E)).cell? ⟨W.heap.size, 0, none⟩ = some u
      rw [cell_cells hn]
      rfl
    | succ j => simp at hj
  have hbytes : (xs.length + 1) * bytes ≤ 140737488355328 := by
    have : (xs.length + 1) * bytes ≤ 10000001 * 64 := Nat.mul_le_mul (by omega) hby
    omega
  obtain ⟨v', w', hr, h2, h3, _, h5⟩ := run_append_own_at (P := P) (w := W.alloc (.cells #[u] E)) w0.heap.size T o.type E i0 z 1 bytes ht hi hz hsz hb hz1 (by decide) v xs.length xs (hown.alloc _) ⟨W.heap.size, 0, none⟩ 1 1 [u] rfl hnews (by simpa using hu)
    (by unfold maxLen; omega) hbytes (by have := hx0.size; simp; omega)
  refine wpList_plain hgd fun K hK => ?_
  unfold Oper.wp execOp
  simp only [ho, resolve, invoke, builtin, Sem.run_bind, Sem.run_pure, Result.andThen_ok, List.map_toArray, List.map_cons, List.map_nil, hs, hx, hr]
  have hrow : ∀ k, v.ownBlock = some k → w0.heap.size ≤ k := fun k hk => (hown.lt k hk).1
  have hsz : (W.alloc (.cells #[u] E)).heap.size = W.heap.size + 1 := by simp
  have h4 := h3.size
  have h6 := hx0.size
  refine hK _ _ (h v' w' ⟨Below.grown (hx0.alloc' _) h3 (by omega) hrow, by simpa using h2⟩ ⟨by omega, fun g hg hne => ?_⟩ (by rw [hsz] at h5; exact h5))
  exact (h3.block g (by omega) hne).trans (Below.heap_alloc W _ g hg)
end Go.Proofs.YtjpgjmhdjepfgaaDoor
