/- What is proved: impl.middlesOf, spec.BetweenOf, spec.MiddlesOf return the points that are said, as new memory. Conditions: those of each contract. -/
import Derived.Test.YtcejdgnfmcgopaaGreatDoorPa
namespace Go.Proofs.YtcejdgnfmcgopaaGreatDoor
open Go.RowKit

/-- the numbers below n of which p holds -/
def selG (p : Nat → Bool) : Nat → Nat → List Int → List Int := itR (fun k xs => if p k = true then xs ++ [(k : Int)] else xs)
def selN (p : Nat → Bool) (n : Nat) : List Int := selG p n 0 []
theorem selG_eq (p : Nat → Bool) : ∀ g k xs, selG p g k xs = xs ++ ((List.range' k g).filter p).map (fun i => ((i : Nat) : Int))
  | 0, k, xs => by simp [selG, itR]
  | g + 1, k, xs => by
    have e : selG p (g + 1) k xs = selG p g (k + 1) (if p k = true then xs ++ [(k : Int)] else xs) := rfl
    rw [e, selG_eq p g (k + 1), List.range'_succ]
    by_cases h : p k = true
    · simp [h]
    · simp [h]
theorem selN_eq (p : Nat → Bool) (n : Nat) : selN p n = ((List.range n).filter p).map (fun i => ((i : Nat) : Int)) := by
  rw [selN, selG_eq, List.range_eq_range']; simp
theorem selN_congr {p q : Nat → Bool} {n : Nat} (h : ∀ i, i < n → p i = q i) : selN p n = selN q n := by
  rw [selN_eq, selN_eq, List.filter_congr (fun x hx => h x (List.mem_range.1 hx))]

/-- collecting numbers: the slot v holds xs so far, the rest of the loop makes T of it -/
def Col (p : Nat → Bool) (w0 W : World) (v : Value) (g k : Nat) (T : List Int) : Prop := ∃ xs : List Int, Acc w0 W 3 v (xs.map (Value.int .i64)) ∧ xs.length ≤ k ∧ selG p g k xs = T
theorem Col.x {p : Nat → Bool} {w0 W : World} {v : Value} {g k : Nat} {T : List Int} (h : Col p w0 W v g k T) : Ext w0 W := h.elim fun _ h => h.1.x
theorem Col.start {p : Nat → Bool} {w0 w : World} {n : Nat} (h : Ext w0 w) : Col p w0 (w.alloc (.cells #[] 3)) (.slice (some ⟨w.heap.size, 0, none⟩) 0 0) n 0 (selN p n) :=
  ⟨[], Acc.empty _ h, Nat.le_refl _, rfl⟩
theorem Col.on {p : Nat → Bool} {w0 W W' : World} {v : Value} {g k : Nat} {T : List Int} (h : Col p w0 W v g k T) (hx : Ext W W') : Col p w0 W' v g k T := by
  obtain ⟨xs, h1, h2, h3⟩ := h
  exact ⟨xs, h1.on hx, h2, h3⟩
theorem Col.skip {p : Nat → Bool} {w0 W W' : World} {v : Value} {g k : Nat} {T : List Int} (h : Col p w0 W v (g + 1) k T) (hp : p k = false) (hx : Ext W W') : Col p w0 W' v g (k + 1) T := by
  obtain ⟨xs, h1, h2, h3⟩ := h
  refine ⟨xs, h1.on hx, by omega, ?_⟩
  rw [← h3]
  show _ = selG p g (k + 1) (if p k = true then xs ++ [(k : Int)] else xs)
  rw [hp]; rfl
theorem Col.done {p : Nat → Bool} {w0 W : World} {v : Value} {k : Nat} {T : List Int} (h : Col p w0 W v 0 k T) : FreshI w0 T (.returned v) W := by
  obtain ⟨xs, h1, h2, h3⟩ := h
  have e : xs = T := h3
  subst e
  obtain ⟨hl, hf⟩ := Leaf.of_own (n := (xs.map (Value.int .i64)).length) h1.2
  exact ⟨v, rfl, hl, hf, h1.1⟩
/-- one number more -/
theorem Col.push {P : Program} {ops : Array Oper} {rest : List Oper} {o : Oper} {a : Act} {Q : Exit → Act → World → Prop} {w0 W : World} {T E : TypeId} {p : Nat → Bool} {g k : Nat} {S : List Int}
    (hE : E = 3) (ht : P.underlying T = some (.slice E)) (hinfo : (P.info? E).map (fun i => (i.zero, i.size, i.bytes)) = some (some (.int .i64 0), 1, 8))
    (hgd : o.guard = none) (s x : Operand) (ho : o.op = .call { callee := .builtin .append, args := #[s, x], argTypes := #[T, T] })
    (v : Value) (hs : a.eval s = v) (hx : a.eval x = .slice (some ⟨W.heap.size, 0, none⟩) 1 1) (h : Col p w0 W v (g + 1) k S) (hp : p k = true) (hk : k ≤ 10000000)
    (hn : ∀ v' w', Col p w0 w' v' g (k + 1) S → wpList P ops Q rest (a.put o.dst v') w') : wpList P ops Q (o :: rest) a (W.alloc (.cells #[.int .i64 k] E)) := by
  subst hE
  obtain ⟨xs, h1, h2, h3⟩ := h
  refine wp_app ht hinfo rfl (by decide) hgd s x ho v _ _ hs hx rfl h1 (by simp; omega) fun v' w' ha _ _ => hn v' w' ⟨xs ++ [(k : Int)], by simpa using ha, by simp; omega, ?_⟩
  rw [← h3]
  show _ = selG p g (k + 1) (if p k = true then xs ++ [(k : Int)] else xs)
  rw [hp]; rfl

/-- .. with what stands beside -/
theorem Col.push2 {P : Program} {ops : Array Oper} {rest : List Oper} {o : Oper} {a : Act} {Q : Exit → Act → World → Prop} {w0 W : World} {T E : TypeId} {p : Nat → Bool} {g k : Nat} {S : List Int}
    (hE : E = 3) (ht : P.underlying T = some (.slice E)) (hinfo : (P.info? E).map (fun i => (i.zero, i.size, i.bytes)) = some (some (.int .i64 0), 1, 8))
    (hgd : o.guard = none) (s x : Operand) (ho : o.op = .call { callee := .builtin .append, args := #[s, x], argTypes := #[T, T] })
    (v : Value) (hs : a.eval s = v) (hx : a.eval x = .slice (some ⟨W.heap.size, 0, none⟩) 1 1) (h : Col p w0 W v (g + 1) k S) (hp : p k = true) (hk : k ≤ 10000000)
    (hn : ∀ v' w', Col p w0 w' v' g (k + 1) S ∧ Beside v W w' ∧ Stays v v' (W.heap.size + 1) → wpList P ops Q rest (a.put o.dst v') w') : wpList P ops Q (o :: rest) a (W.alloc (.cells #[.int .i64 k] E)) := by
  subst hE
  obtain ⟨xs, h1, h2, h3⟩ := h
  refine wp_app ht hinfo rfl (by decide) hgd s x ho v _ _ hs hx rfl h1 (by simp; omega) fun v' w' ha hb hs => hn v' w' ⟨⟨xs ++ [(k : Int)], by simpa using ha, by simp; omega, ?_⟩, hb, hs⟩
  rw [← h3]
  show _ = selG p g (k + 1) (if p k = true then xs ++ [(k : Int)] else xs)
  rw [hp]; rfl

def btwB (D : List (List Int)) (a b x : Nat) : Bool := decide (at2 D a x + at2 D x b = at2 D a b)
def midB (D : List (List Int)) (a b c x : Nat) : Bool := btwB D a b x && (btwB D a c x && btwB D b c x)
def midsL (D : List (List Int)) (a b c : Nat) : List Int := selN (midB D a b c) D.length

end Go.Proofs.YtcejdgnfmcgopaaGreatDoor
