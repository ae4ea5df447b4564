/- What is proved: impl.middlesOf, spec.BetweenOf, spec.MiddlesOf return the points that are said, as new memory. Conditions: those of each contract. -/
import Derived.Test.YtjaigidlpfdfiaaApp
namespace Go.Proofs.Ytjaigidlpfdfiaa
open Go.RowKit

/-- the numbers below n of which p holds -/
def selG (p : Nat → Bool) : Nat → Nat → List Int → List Int := itR (fun k xs => if p k = true then xs ++ [(k : Int)] else xs)
def selN (p : Nat → Bool) (n : Nat) : List Int := selG p n 0 []
theorem selG_eq (p : Nat → Bool) : ∀ g k xs, selG p g k xs = xs ++ ((List.range' k g).filter p).map (fun i => ((i : Nat) : Int))
  | 0, k, xs => by simp [selG, itR]
  | g + 1, k, xs => by
    have e : selG p (g + 1) k xs = selG p g (k + 1) (if p k = true then xs ++ [(k : Int)] else xs) := rfl
    rw [e, selG_eq p g (k + 1), List.range'_succ]
    by_cases h : p k = true
    · simp [h]
    · simp [h]
theorem selN_eq (p : Nat → Bool) (n : Nat) : selN p n = ((List.range n).filter p).map (fun i => ((i : Nat) : Int)) := by
  rw [selN, selG_eq, List.range_eq_range']; simp
theorem selN_congr {p q : Nat → Bool} {n : Nat} (h : ∀ i, i < n → p i = q i) : selN p n = selN q n := by
  rw [selN_eq, selN_eq, List.filter_congr (fun x hx => h x (List.mem_range.1 hx))]

/-- collecting numbers: the slot v holds xs so far, the rest of the loop makes T of it -/
def Col (p : Nat → Bool) (w0 W : World) (v : Value) (g k : Nat) (T : List Int) : Prop := ∃ xs : List Int, Acc w0 W 3 v (xs.map (Value.int .i64)) ∧ xs.length ≤ k ∧ selG p g k xs = T
theorem Col.x {p : Nat → Bool} {w0 W : World} {v : Value} {g k : Nat} {T : List Int} (h : Col p w0 W v g k T) : Ext w0 W := h.elim fun _ h => h.1.x
theorem Col.start {p : Nat → Bool} {w0 w : World} {n : Nat} (h : Ext w0 w) : Col p w0 (w.alloc (.cells #[] 3)) (.slice (some ⟨w.heap.size, 0, none⟩) 0 0) n 0 (selN p n) :=
  ⟨[], Acc.empty _ h, Nat.le_refl _, rfl⟩
theorem Col.on {p : Nat → Bool} {w0 W W' : World} {v : Value} {g k : Nat} {T : List Int} (h : Col p w0 W v g k T) (hx : Ext W W') : Col p w0 W' v g k T := by
  obtain ⟨xs, h1, h2, h3⟩ := h
  exact ⟨xs, h1.on hx, h2, h3⟩
theorem Col.skip {p : Nat → Bool} {w0 W W' : World} {v : Value} {g k : Nat} {T : List Int} (h : Col p w0 W v (g + 1) k T) (hp : p k = false) (hx : Ext W W') : Col p w0 W' v g (k + 1) T := by
  obtain ⟨xs, h1, h2, h3⟩ := h
  refine ⟨xs, h1.on hx, by omega, ?_⟩
  rw [← h3]
  show _ = selG p g (k + 1) (if p k = true then xs ++ [(k : Int)] else xs)
  rw [hp]; rfl
theorem Col.done {p : Nat → Bool} {w0 W : World} {v : Value} {k : Nat} {T : List Int} (h : Col p w0 W v 0 k T) : FreshI w0 T (.returned v) W := by
  obtain ⟨xs, h1, h2, h3⟩ := h
  have e : xs = T := h3
  subst e
  obtain ⟨hl, hf⟩ := Leaf.of_own (n := (xs.map (Value.int .i64)).length) h1.2
  exact ⟨v, rfl, hl, hf, h1.1⟩
/-- one number more -/
theorem Col.push {P : Program} {ops : Array Oper} {rest : List Oper} {o : Oper} {a : Act} {Q : Exit → Act → World → Prop} {w0 W : World} {T E : TypeId} {p : Nat → Bool} {g k : Nat} {S : List Int}
    (hE : E = 3) (ht : P.underlying T = some (.slice E)) (hinfo : (P.info? E).map (fun i => (i.zero, i.size, i.bytes)) = some (some (.int .i64 0), 1, 8))
    (hgd : o.guard = none) (s x : Operand) (ho : o.op = .call { callee := .builtin .append, args := #[s, x], argTypes := #[T, T] })
    (v : Value) (hs : a.eval s = v) (hx : a.eval x = .slice (some ⟨W.heap.size, 0, none⟩) 1 1) (h : Col p w0 W v (g + 1) k S) (hp : p k = true) (hk : k ≤ 10000000)
    (hn : ∀ v' w', Col p w0 w' v' g (k + 1) S → wpList P ops Q rest (a.put o.dst v') w') : wpList P ops Q (o :: rest) a (W.alloc (.cells #[.int .i64 k] E)) := by
  subst hE
  obtain ⟨xs, h1, h2, h3⟩ := h
  refine wp_app ht hinfo rfl (by decide) hgd s x ho v _ _ hs hx rfl h1 (by simp; omega) fun v' w' ha _ _ => hn v' w' ⟨xs ++ [(k : Int)], by simpa using ha, by simp; omega, ?_⟩
  rw [← h3]
  show _ = selG p g (k + 1) (if p k = true then xs ++ [(k : Int)] else xs)
  rw [hp]; rfl

/-- .. with what stands beside -/
theorem Col.push2 {P : Program} {ops : Array Oper} {rest : List Oper} {o : Oper} {a : Act} {Q : Exit → Act → World → Prop} {w0 W : World} {T E : TypeId} {p : Nat → Bool} {g k : Nat} {S : List Int}
    (hE : E = 3) (ht : P.underlying T = some (.slice E)) (hinfo : (P.info? E).map (fun i => (i.zero, i.size, i.bytes)) = some (some (.int .i64 0), 1, 8))
    (hgd : o.guard = none) (s x : Operand) (ho : o.op = .call { callee := .builtin .append, args := #[s, x], argTypes := #[T, T] })
    (v : Value) (hs : a.eval s = v) (hx : a.eval x = .slice (some ⟨W.heap.size, 0, none⟩) 1 1) (h : Col p w0 W v (g + 1) k S) (hp : p k = true) (hk : k ≤ 10000000)
    (hn : ∀ v' w', Col p w0 w' v' g (k + 1) S ∧ Beside v W w' ∧ Stays v v' (W.heap.size + 1) → wpList P ops Q rest (a.put o.dst v') w') : wpList P ops Q (o :: rest) a (W.alloc (.cells #[.int .i64 k] E)) := by
  subst hE
  obtain ⟨xs, h1, h2, h3⟩ := h
  refine wp_app ht hinfo rfl (by decide) hgd s x ho v _ _ hs hx rfl h1 (by simp; omega) fun v' w' ha hb hs => hn v' w' ⟨⟨xs ++ [(k : Int)], by simpa using ha, by simp; omega, ?_⟩, hb, hs⟩
  rw [← h3]
  show _ = selG p g (k + 1) (if p k = true then xs ++ [(k : Int)] else xs)
  rw [hp]; rfl

def btwB (D : List (List Int)) (a b x : Nat) : Bool := decide (at2 D a x + at2 D x b = at2 D a b)
def midB (D : List (List Int)) (a b c x : Nat) : Bool := btwB D a b x && (btwB D a c x && btwB D b c x)
def midsL (D : List (List Int)) (a b c : Nat) : List Int := selN (midB D a b c) D.length

set_option maxRecDepth 100000 in
set_option maxHeartbeats 2000000 in
theorem middlesOf_any (A : Option Addr) (cp : Nat) (D : List (List Int)) (a b c : Nat) (w : World) (h : Mat w A cp D) (hs : spB D = true) (ha : a < D.length) (hb : b < D.length) (hc : c < D.length) :
    Calls Try.prog 61 #[.slice A D.length cp, .int .i64 a, .int .i64 b, .int .i64 c] w (FreshI w (midsL D a b c)) := by
  obtain ⟨⟨hn1, hn6⟩, hsq, hcells⟩ := farB_parts (spB_far hs)
  clear hs
  obtain ⟨bk, o, rc, rb, ro, hA, hrow, -, hcell, -⟩ := h.square hsq
  obtain rfl := hA (by omega)
  have ha' : (a : Int) < (D.length : Nat) := by omega
  have hb' : (b : Int) < (D.length : Nat) := by omega
  have hc' : (c : Int) < (D.length : Nat) := by omega
  go_enter Try.func61, Try.ntmps61
  go_wp2
  go_loopg [9, 14] D.length (fun g s9 s14 wr => ∃ (i : Nat), i + g = D.length ∧ s14 = .int .i64 i ∧ Col (midB D a b c) w wr s9 g i (midsL D a b c))
  case atStart => exact ⟨0, by omega, rfl, Col.start (Ext.refl _)⟩
  case round =>
    obtain ⟨x, hi, rfl, hcol⟩ := hrel
    by_cases hin : x < D.length
    · obtain ⟨g', rfl⟩ : ∃ g', gk = g' + 1 := ⟨gk - 1, by omega⟩
      have hin' : (x : Int) < (D.length : Nat) := by omega
      have hx := hcol.x
      have r1 := hx.cell (hrow a ha)
      have r2 := hx.cell (hrow b hb)
      have r3 := hx.cell (hrow x hin)
      have c1 := hx.cell (hcell a ha x hin)
      have c2 := hx.cell (hcell x hin b hb)
      have c3 := hx.cell (hcell a ha b hb)
      have c4 := hx.cell (hcell x hin c hc)
      have c5 := hx.cell (hcell a ha c hc)
      have c6 := hx.cell (hcell b hb x hin)
      have c7 := hx.cell (hcell b hb c hc)
      obtain ⟨p1, q1, -, -⟩ := hcells a ha x hin
      obtain ⟨p2, q2, -, -⟩ := hcells x hin b hb
      obtain ⟨p3, q3, -, -⟩ := hcells x hin c hc
      obtain ⟨p4, q4, -, -⟩ := hcells b hb x hin
      clear hrow hcell hcells hx
      have Hdef := Lib.hid (show midB D a b c x = (decide (at2 D a x + at2 D x b = at2 D a b) && (decide (at2 D a x + at2 D x c = at2 D a c) && decide (at2 D b x + at2 D x c = at2 D b c))) from rfl)
      cases e1 : (at2 D a x + at2 D x b == at2 D a b) with
      | false =>
        have HE := Lib.hid (show midB D a b c x = false by rw [Hdef.out, decide_eq_false (by simpa using e1)]; rfl)
        go_wp2
        go_quiet (fail)
        go_wp2
        go_roundg g'
        case measure => omega
        case rel => exact ⟨x + 1, by omega, by go_num, hcol.skip HE.out (Ext.drewN _ _)⟩
      | true =>
      cases e2 : (at2 D a x + at2 D x c == at2 D a c) with
      | false =>
        have HE := Lib.hid (show midB D a b c x = false by rw [Hdef.out, decide_eq_false (p := at2 D a x + at2 D x c = at2 D a c) (by simpa using e2)]; simp)
        go_wp2
        go_quiet (fail)
        go_wp2
        go_roundg g'
        case measure => omega
        case rel => exact ⟨x + 1, by omega, by go_num, hcol.skip HE.out (Ext.drewN _ _)⟩
      | true =>
      cases e3 : (at2 D b x + at2 D x c == at2 D b c) with
      | false =>
        have HE := Lib.hid (show midB D a b c x = false by rw [Hdef.out, decide_eq_false (p := at2 D b x + at2 D x c = at2 D b c) (by simpa using e3)]; simp)
        go_wp2
        go_quiet (fail)
        go_wp2
        go_roundg g'
        case measure => omega
        case rel => exact ⟨x + 1, by omega, by go_num, hcol.skip HE.out (Ext.drewN _ _)⟩
      | true =>
        have HE := Lib.hid (show midB D a b c x = true by rw [Hdef.out, decide_eq_true (beq_iff_eq.1 e1), decide_eq_true (beq_iff_eq.1 e2), decide_eq_true (beq_iff_eq.1 e3)]; rfl)
        go_wp2
        go_quiet (fail)
        have hcol2 := hcol.on (Ext.drewN _ nq)
        go_wp2_with (at_builtin; refine Col.push rfl Try.underlying39 infoI rfl (.tmp 90) (.tmp 92) rfl _ rfl rfl hcol2 HE.out (by omega) ?_; intro v' w' hcol')
        go_roundg g'
        case measure => omega
        case rel => exact ⟨x + 1, by omega, by go_num, hcol'⟩
    · have hin' : ¬ (x : Int) < (D.length : Nat) := by omega
      obtain rfl : gk = 0 := by omega
      clear hrow hcell hcells
      go_wp2
      go_ret
      exact hcol.done
end Go.Proofs.Ytjaigidlpfdfiaa
