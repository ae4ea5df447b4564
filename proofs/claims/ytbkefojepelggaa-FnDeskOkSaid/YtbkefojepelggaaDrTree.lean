/- What is proved: l20Tree draws rows in memory of its own, at most six. Conditions: those of the contract. -/
import Derived.Test.YtbkefojepelggaaCat
namespace Go.Proofs.Ytbkefojepelggaa
open Go.RowKit
/-- a list of numbers of one's own, under way -/
def OwnI (base : Nat) (W : World) (v : Value) (xs : List Int) : Prop := W.ownsRow base 3 1 v (xs.map (Value.int .i64)).length (xs.map (Value.int .i64))
theorem OwnI.keep {base : Nat} {W W' : World} {v : Value} {xs : List Int} (h : OwnI base W v xs) (k : ∀ q, v.ownBlock = some q → q < W.heap.size → W'.heap[q]? = W.heap[q]?) : OwnI base W' v xs := by
  obtain ⟨h1, h2⟩ := h
  refine ⟨h1, ?_⟩
  rcases h2 with h3 | ⟨g, cap, cur, rfl, e2, e3, e4⟩
  · exact .inl h3
  · exact .inr ⟨g, cap, cur, rfl, e2, (k g rfl (heap_lt e3)).trans e3, e4⟩
theorem OwnI.ge {base : Nat} {W : World} {v : Value} {xs : List Int} (h : OwnI base W v xs) {q : Nat} (hq : v.ownBlock = some q) : base ≤ q ∧ q < W.heap.size := h.lt q hq
theorem OwnI.leaf {base : Nat} {W : World} {v : Value} {xs : List Int} (h : OwnI base W v xs) : Leaf W v xs ∧ ∀ g ∈ lb v, base ≤ g := Leaf.of_own h
/-- two lists under way, apart -/
def TwoI (w : World) (B g : Nat) (u : Int) (v s : Value) (xs ys : List Int) (W : World) : Prop :=
  OwnI w.heap.size W v xs ∧ OwnI w.heap.size W s ys ∧ (∀ q, v.ownBlock = some q → s.ownBlock ≠ some q) ∧ RdU W B g u ∧ ExtG g w W
theorem TwoI.swap {w W : World} {B g : Nat} {u : Int} {v s : Value} {xs ys : List Int} (h : TwoI w B g u v s xs ys W) : TwoI w B g u s v ys xs W :=
  ⟨h.2.1, h.1, fun q h1 h2 => h.2.2.1 q h2 h1, h.2.2.2.1, h.2.2.2.2⟩
theorem TwoI.rd {w W W' : World} {B g : Nat} {u u' : Int} {v s : Value} {xs ys : List Int} (h : TwoI w B g u v s xs ys W) (hO : Only (fun x => x = g) W W') (hR : RdU W' B g u') (hB : B ≤ w.heap.size) : TwoI w B g u' v s xs ys W' := by
  obtain ⟨h1, h2, h3, h4, h5⟩ := h
  have hg := hR.lt
  exact ⟨h1.keep fun q hq _ => hO.2.2.2.2 q (by have := (h1.ge hq).1; omega), h2.keep fun q hq _ => hO.2.2.2.2 q (by have := (h2.ge hq).1; omega), h3, hR, h5.rd hO⟩
theorem TwoI.le {w W : World} {B g : Nat} {u u' : Int} {v s : Value} {xs ys : List Int} (h : TwoI w B g u v s xs ys W) (k : u ≤ u') : TwoI w B g u' v s xs ys W := by
  obtain ⟨h1, h2, h3, h4, h5⟩ := h
  exact ⟨h1, h2, h3, h4.le k, h5⟩
theorem TwoI.push {P : Program} {ops : Array Oper} {rest : List Oper} {o : Oper} {a : Act} {Q : Exit → Act → World → Prop} {w W : World} {T E : TypeId} {B g : Nat} {u : Int} {y : Int} {xs ys : List Int} {s' : Value} (hE : E = 3)
    (ht : P.underlying T = some (.slice E)) (hinfo : (P.info? E).map (fun i => (i.zero, i.size, i.bytes)) = some (some (.int .i64 0), 1, 8))
    (hgd : o.guard = none) (s x : Operand) (ho : o.op = .call { callee := .builtin .append, args := #[s, x], argTypes := #[T, T] })
    (v : Value) (hs : a.eval s = v) (hx : a.eval x = .slice (some ⟨W.heap.size, 0, none⟩) 1 1) (h : TwoI w B g u v s' xs ys W) (hB : B ≤ w.heap.size) (hl : xs.length ≤ 1000)
    (hk : ∀ v' w', TwoI w B g u v' s' (xs ++ [y]) ys w' → wpList P ops Q rest (a.put o.dst v') w') :
    wpList P ops Q (o :: rest) a (W.alloc (.cells #[.int .i64 y] E)) := by
  subst hE
  obtain ⟨h1, h2, h3, h4, h5⟩ := h
  have hbase : w.heap.size ≤ W.heap.size := h5.size
  have hacc : Acc (cutW W w.heap.size) W 3 v (xs.map (Value.int .i64)) := ⟨cut_ext hbase, by rw [cut_size hbase]; exact h1⟩
  refine wp_app ht hinfo rfl (by decide) hgd s x ho v (.int .i64 y) _ hs hx rfl hacc (by simp; omega) fun v' w' ha hb hst => hk v' w' ⟨?_, ?_, fun q hq hq' => ?_, h4.cut ha.1 hbase hB, h5.cut ha.1 hbase (Nat.le_refl _)⟩
  · have ha2 := ha.2
    rw [cut_size hbase] at ha2
    unfold OwnI
    rw [List.map_append]
    exact ha2
  · exact h2.keep fun q hq hlt => hb.2 q hlt fun e => h3 q e.symm hq
  · rcases hst with k | k
    · rw [k] at hq; exact h3 q hq hq'
    · rw [k] at hq; injection hq with hq; subst hq
      have := (h2.ge hq').2
      omega

/-- two new lists -/
theorem two_start {w w1 : World} {B g : Nat} {u : Int} (hR0 : RdU w B g u) (hO : Only (fun x => x = g) ((w.alloc (.cells #[] 3)).alloc (.cells #[] 3)) w1) (hR : RdU w1 B g (u + 1)) (hB : B ≤ w.heap.size) :
    TwoI w B g (u + 1 + 2 * (([] : List Int).length : Int)) (.slice (some ⟨w.heap.size, 0, none⟩) 0 0) (.slice (some ⟨w.heap.size + 1, 0, none⟩) 0 0) [] [] w1 := by
  have hg := hR.lt
  have h1 : OwnI w.heap.size (w.alloc (.cells #[] 3)) (.slice (some ⟨w.heap.size, 0, none⟩) 0 0) [] := World.ownsRow_made w #[] 0 (Nat.le_refl _) (Nat.zero_le _) rfl
  have h2 : OwnI w.heap.size ((w.alloc (.cells #[] 3)).alloc (.cells #[] 3)) (.slice (some ⟨w.heap.size + 1, 0, none⟩) 0 0) [] := by
    have h : ((w.alloc (.cells #[] 3)).alloc (.cells #[] 3)).ownsRow w.heap.size 3 1 (.slice (some ⟨(w.alloc (.cells #[] 3)).heap.size, 0, none⟩) 0 0) 0 [] := World.ownsRow_made (w.alloc (.cells #[] 3)) #[] 0 (by simp) (Nat.zero_le _) rfl
    simpa [OwnI] using h
  refine TwoI.rd (u := u) ⟨h1.keep fun q hq hlt => Below.heap_alloc _ _ _ hlt, h2, fun q h3 h4 => ?_, ?_, ((ExtG.refl g w).alloc _).alloc _⟩ hO (by simpa using hR) hB
  · simp [Value.ownBlock] at h3 h4; omega
  · exact hR0.ext ((Ext.alloc _ _).trans (Ext.alloc _ _)) hB
/-- all numbers between a and b -/
def AllIn (a b : Int) (xs : List Int) : Prop := ∀ i, i < xs.length → a ≤ ix xs i ∧ ix xs i ≤ b
theorem AllIn.push {a b : Int} {xs : List Int} (h : AllIn a b xs) {y : Int} (h0 : a ≤ y) (h1 : y ≤ b) : AllIn a b (xs ++ [y]) := fun i hi => by
  simp only [List.length_append, List.length_singleton] at hi
  by_cases e : i < xs.length
  · have := h i e
    rw [ix_of (by simp; omega), List.getElem_append_left e, ← ix_of e]; exact this
  · rw [ix_of (by simp; omega), List.getElem_append_right (by omega)]
    simp; omega
/-- the state of the drawing loop -/
def TrS (w : World) (B g : Nat) (u : Int) (K gm : Nat) (v s : Value) (W : World) : Prop :=
  ∃ xs ys, xs.length + gm = K ∧ (ys.length = xs.length ∧ 0 < gm ∨ ys.length + 1 = xs.length ∧ gm = 0) ∧ AllIn 1 5 xs ∧ AllIn 0 5 ys ∧ TwoI w B g (u + 1 + 2 * xs.length) v s xs ys W
end Go.Proofs.Ytbkefojepelggaa
