/- What is proved: CaterpillarOf returns rows in memory of its own, at most six. Conditions: those of the contract. -/
import Derived.Test.YtbkefojepelggaaDrSpc
namespace Go.Proofs.Ytbkefojepelggaa
open Go.RowKit

/-- what CaterpillarOf leaves -/
def CatO (w : World) (e : Ending) (w' : World) : Prop :=
  ∃ A c V D b, e = .returned (.tuple #[.slice A (List.length D) c, .bool b]) ∧ ObjM w.heap.size w' A c D V ∧ D.length ≤ 6 ∧ Ext w w'
/-- a row of j numbers under way -/
def RowAcc (w0 : World) (v : Value) (j : Nat) (W : World) : Prop := ∃ xs : List Int, xs.length = j ∧ Acc w0 W 3 v (xs.map (Value.int .i64))
theorem RowAcc.x {w0 W : World} {v : Value} {j : Nat} (h : RowAcc w0 v j W) : Ext w0 W := by
  obtain ⟨xs, _, h1⟩ := h
  exact h1.1
theorem RowAcc.on {w0 W W' : World} {v : Value} {j : Nat} (h : RowAcc w0 v j W) (x : Ext W W') : RowAcc w0 v j W' := by
  obtain ⟨xs, h0, h1⟩ := h
  exact ⟨xs, h0, h1.on x⟩
/-- a row under way -/
theorem row_push {P : Program} {ops : Array Oper} {rest : List Oper} {o : Oper} {a : Act} {Q : Exit → Act → World → Prop} {w0 W : World} {T E : TypeId} {y : Int} {k : Nat} (hE : E = 3)
    (ht : P.underlying T = some (.slice E)) (hinfo : (P.info? E).map (fun i => (i.zero, i.size, i.bytes)) = some (some (.int .i64 0), 1, 8))
    (hgd : o.guard = none) (s x : Operand) (ho : o.op = .call { callee := .builtin .append, args := #[s, x], argTypes := #[T, T] })
    (v : Value) (hs : a.eval s = v) (hx : a.eval x = .slice (some ⟨W.heap.size, 0, none⟩) 1 1) (h : RowAcc w0 v k W) (hl : k ≤ 1000)
    (hk : ∀ v' w', RowAcc w0 v' (k + 1) w' → wpList P ops Q rest (a.put o.dst v') w') :
    wpList P ops Q (o :: rest) a (W.alloc (.cells #[.int .i64 y] E)) := by
  subst hE
  obtain ⟨xs, rfl, hacc⟩ := h
  refine wp_app ht hinfo rfl (by decide) hgd s x ho v (.int .i64 y) _ hs hx rfl hacc (by simp; omega) fun v' w' ha hb hst => hk v' w' ⟨xs ++ [y], by simp, ?_⟩
  rw [List.map_append]
  exact ha
/-- rows under way: how many -/
def RowsN (w0 W : World) (v : Value) (k : Nat) : Prop := ∃ D V, D.length = k ∧ AccM w0 W v D V
theorem RowsN.x {w0 W : World} {v : Value} {k : Nat} (h : RowsN w0 W v k) : Ext w0 W := by
  obtain ⟨D, V, _, h1⟩ := h
  exact h1.x
theorem RowsN.on {w0 W W' : World} {v : Value} {k : Nat} (h : RowsN w0 W v k) (x : Ext W W') : RowsN w0 W' v k := by
  obtain ⟨D, V, h0, h1⟩ := h
  exact ⟨D, V, h0, h1.on x⟩
theorem RowsN.push {P : Program} {ops : Array Oper} {rest : List Oper} {o : Oper} {a : Act} {Q : Exit → Act → World → Prop} {w0 wr W : World} {T E : TypeId} {k m : Nat} {r : Value} (hE : E = 31)
    (ht : P.underlying T = some (.slice E)) (hinfo : (P.info? E).map (fun i => (i.zero, i.size, i.bytes)) = some (some (.slice none 0 0), 1, 24))
    (hgd : o.guard = none) (s x : Operand) (ho : o.op = .call { callee := .builtin .append, args := #[s, x], argTypes := #[T, T] })
    (v : Value) (hs : a.eval s = v) (hx : a.eval x = .slice (some ⟨W.heap.size, 0, none⟩) 1 1) (h : RowsN w0 wr v k) (hr : ∃ xs : List Int, xs.length = m ∧ Acc wr W 3 r (xs.map (Value.int .i64))) (hl : k ≤ 1000)
    (hk : ∀ v' w', RowsN w0 w' v' (k + 1) → wpList P ops Q rest (a.put o.dst v') w') :
    wpList P ops Q (o :: rest) a (W.alloc (.cells #[r] E)) := by
  obtain ⟨D, V, rfl, h1⟩ := h
  obtain ⟨xs, -, hacc⟩ := hr
  have hlt : ∀ i, i < D.length → ∀ g ∈ lb (V i), g < wr.heap.size := fun i hi g hg => (h1.2.1 i hi).lt hg
  have hx0 := h1.x.size
  obtain ⟨hleaf, hge⟩ := Leaf.of_own hacc.2
  obtain ⟨Ar, cr, rfl, _⟩ := hleaf.ints
  exact wp_appM hE ht hinfo hgd s x ho v _ D xs V hs hx rfl (h1.on hacc.1) hleaf (fun g hg => ⟨by have := hge g hg; omega, fun i hi hg' => by have := hlt i hi g hg'; have := hge g hg; omega⟩) (by omega)
    fun v' w' ha => hk v' w' ⟨_, _, by simp, ha⟩

end Go.Proofs.Ytbkefojepelggaa
