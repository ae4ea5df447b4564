/- What is proved: append as one step of a region, in whatever order: to numbers and to rows of one's own. Conditions: sizes. -/
import Derived.Test.YtjpgjmhdjepfgaaDoorAppM
import Derived.Deep.RegionHeld3
namespace Go.Proofs.YtjpgjmhdjepfgaaDoor
open Go.RowKit
theorem Ext.drew' {a w : World} (h : Ext a w) : Ext a w.drew := h.drewN' 1
/-- append as a step of a region that draws -/
theorem step_ex {P : Program} {ops : Array Oper} {o : Oper} {a : Act} {w : World} {K : Act → World → Prop} {Q : Exit → Act → World → Prop} {E : Prop} {T : TypeId} {R : Value → World → Prop}
    (hg : o.guard = none) (s x : Operand) (ho : o.op = .call { callee := .builtin .append, args := #[s, x], argTypes := #[T, T] })
    (v u : Value) (hs : a.eval s = v) (hx : a.eval x = u) (h : ∃ v' w', (Builtin.append_ #[T, T] o.type #[v, u]).run P w = .ok v' w' ∧ R v' w')
    (hk : ∀ v' w', R v' w' → K (a.put o.dst v') w') : if Region.wanted o (yielded ops a.tmps) = true then Oper.wp P o a w K Q else E := by
  have hw : Region.wanted o (yielded ops a.tmps) = true := by simp [Region.wanted, hg]
  rw [if_pos hw]
  obtain ⟨v', w', hr, hR⟩ := h
  unfold Oper.wp execOp
  simp only [ho, resolve, invoke, builtin, Sem.run_bind, Sem.run_pure, Result.andThen_ok, List.map_toArray, List.map_cons, List.map_nil, hs, hx, hr]
  exact hk _ _ hR
/-- append in a region that does not draw -/
theorem wpList_ex {P : Program} {ops : Array Oper} {rest : List Oper} {o : Oper} {a : Act} {w : World} {Q : Exit → Act → World → Prop} {T : TypeId} {R : Value → World → Prop}
    (hg : o.guard = none) (s x : Operand) (ho : o.op = .call { callee := .builtin .append, args := #[s, x], argTypes := #[T, T] })
    (v u : Value) (hs : a.eval s = v) (hx : a.eval x = u) (h : ∃ v' w', (Builtin.append_ #[T, T] o.type #[v, u]).run P w = .ok v' w' ∧ R v' w')
    (hk : ∀ v' w', R v' w' → wpList P ops Q rest (a.put o.dst v') w') : wpList P ops Q (o :: rest) a w := by
  obtain ⟨v', w', hr, hR⟩ := h
  refine wpList_plain hg fun K hK => ?_
  unfold Oper.wp execOp
  simp only [ho, resolve, invoke, builtin, Sem.run_bind, Sem.run_pure, Result.andThen_ok, List.map_toArray, List.map_cons, List.map_nil, hs, hx, hr]
  exact hK _ _ (hk _ _ hR)
theorem accNew {w0 W : World} {E : TypeId} {N : Nat} (hx : Ext w0 W) (hN : W.heap[N]? = some (.cells #[] E (0, 0))) (hge : w0.heap.size ≤ N) : Acc w0 W E (.slice (some ⟨N, 0, none⟩) 0 0) [] :=
  ⟨hx, rfl, .inr ⟨N, 0, #[], rfl, hge, hN, Nat.le_refl _, Nat.zero_le _, rfl, rfl⟩⟩
theorem app_run {P : Program} {w0 W : World} {T E ty : TypeId} {z : Value} {bytes : Nat}
    (ht : P.underlying T = some (.slice E)) (hinfo : (P.info? E).map (fun i => (i.zero, i.size, i.bytes)) = some (some z, 1, bytes)) (hz1 : z.cells.size = 1) (hby : bytes ≤ 64)
    (v : Value) (xs : List Value) (ad : Addr) (m c : Nat) (news : List Value) (hl : news.length = m) (hc : ∀ j y, news[j]? = some y → W.cell? (ad.add j) = some y) (h1 : ∀ u ∈ news, u.oneCell' = true)
    (hX : Acc w0 W E v xs) (hlen : xs.length + m ≤ 10000000) :
    ∃ v' w', (Builtin.append_ #[T, T] ty #[v, .slice (some ad) m c]).run P W = .ok v' w' ∧ (Acc w0 w' E v' (xs ++ news) ∧ Beside v W w' ∧ Stays v v' W.heap.size) := by
  obtain ⟨i0, hi, hz, hsz, hb⟩ := info_parts hinfo
  obtain ⟨hx0, hown⟩ := hX
  have hbytes : (xs.length + m) * bytes ≤ 140737488355328 := by
    have : (xs.length + m) * bytes ≤ 10000000 * 64 := Nat.mul_le_mul hlen hby
    omega
  obtain ⟨v', w', hr, h2, h3, _, h5⟩ := run_append_own_at (P := P) (w := W) w0.heap.size T ty E i0 z 1 bytes ht hi hz hsz hb hz1 (by decide) v xs.length xs hown ad m c news (by omega) hc h1
    (by unfold maxLen; omega) hbytes hx0.size
  have hrow : ∀ k, v.ownBlock = some k → w0.heap.size ≤ k := fun k hk => (hown.lt k hk).1
  refine ⟨v', w', hr, ⟨Below.grown hx0 h3 hx0.size hrow, by rw [List.length_append, hl]; exact h2⟩, ⟨h3.size, fun g hg hne => h3.block g hg hne⟩, h5⟩
theorem one_news {W : World} {ad : Addr} {u : Value} (h : W.cell? ad = some u) (h0 : ad.spot = none) : ∀ j y, [u][j]? = some y → W.cell? (ad.add j) = some y := fun j y hj => by
  cases j with
  | zero =>
    simp at hj
    subst hj
    obtain ⟨b, o, sp⟩ := ad
    obtain rfl : sp = none := h0
    rw [Addr.add_lit, Nat.add_zero]
    exact h
  | succ j => simp at hj
theorem ints_news {W : World} {b o n : Nat} {xs : List Int} (hn : xs.length = n) (h : ∀ j, j < n → W.cell? ⟨b, o + j, none⟩ = some (.int .i64 (ix xs j))) : ∀ j y, (xs.map (Value.int .i64))[j]? = some y → W.cell? ((⟨b, o, none⟩ : Addr).add j) = some y := fun j y hj => by
  rw [List.getElem?_map] at hj
  by_cases q : j < xs.length
  · rw [List.getElem?_eq_getElem q] at hj
    simp only [Option.map_some, Option.some.injEq] at hj
    subst hj
    rw [Addr.add_lit, h j (by omega), ix_of q]
  · rw [List.getElem?_eq_none (by omega)] at hj
    cases hj
theorem map_one (xs : List Int) : ∀ u ∈ xs.map (Value.int .i64), u.oneCell' = true := fun u hu => by
  obtain ⟨x, _, rfl⟩ := List.mem_map.1 hu
  rfl
theorem cell_new0 (W : World) (u : Value) (T : TypeId) : (W.alloc (.cells #[u] T)).cell? ⟨W.heap.size, 0, none⟩ = some u := by
  rw [cell_cells (heap_alloc_new W _)]; rfl
theorem cell_beside {v u : Value} {W W' : World} {M : Nat} {T : TypeId} (hB : Beside v W W') (hM : W.heap[M]? = some (.cells #[u] T (0, 0))) (hne : some M ≠ v.ownBlock) : W'.cell? ⟨M, 0, none⟩ = some u := by
  rw [cell_cells ((hB.2 M (heap_lt hM) hne).trans hM)]; rfl
/-- rows under way: how many -/
def RowsM (w0 W : World) (v : Value) (k : Nat) : Prop := ∃ D V, D.length = k ∧ AccM w0 W v D V
theorem RowsM.x {w0 W : World} {v : Value} {k : Nat} (h : RowsM w0 W v k) : Ext w0 W := by
  obtain ⟨D, V, _, h1⟩ := h
  exact h1.x
theorem RowsM.on {w0 W W' : World} {v : Value} {k : Nat} (h : RowsM w0 W v k) (x : Ext W W') : RowsM w0 W' v k := by
  obtain ⟨D, V, h0, h1⟩ := h
  exact ⟨D, V, h0, h1.on x⟩
theorem RowsM.empty {w0 w : World} (h : Ext w0 w) : RowsM w0 (w.alloc (.cells #[] 22)) (.slice (some ⟨w.heap.size, 0, none⟩) 0 0) 0 :=
  ⟨[], fun _ => .slice none 0 0, rfl, AccM.empty h _⟩
theorem leaf_one {W : World} {u : Value} {r : List Int} (h : Leaf W u r) : u.oneCell' = true := by
  obtain ⟨A, c, rfl, _⟩ := h
  rfl
/-- one row more -/
theorem appM_run {P : Program} {w0 W : World} {T E ty : TypeId} (hE : E = 22)
    (ht : P.underlying T = some (.slice E)) (hinfo : (P.info? E).map (fun i => (i.zero, i.size, i.bytes)) = some (some (.slice none 0 0), 1, 24))
    (v u : Value) (D : List (List Int)) (r : List Int) (V : Nat → Value) (ad : Addr) (c : Nat) (had : ad.spot = none) (hc : W.cell? ad = some u) (hX : AccM w0 W v D V)
    (hr : Leaf W u r) (hfr : ∀ g ∈ lb u, w0.heap.size ≤ g ∧ ∀ i, i < D.length → g ∉ lb (V i)) (hl : D.length ≤ 1000000) :
    ∃ v' w', (Builtin.append_ #[T, T] ty #[v, .slice (some ad) 1 c]).run P W = .ok v' w' ∧ AccM w0 w' v' (D ++ [r]) (fun i => if i = D.length then u else V i) := by
  subst hE
  obtain ⟨hA, h2, h3, h4⟩ := hX
  obtain ⟨v', w', hrun, ha, hb, _⟩ := app_run (ty := ty) ht hinfo rfl (by decide) v _ ad 1 c [u] rfl (one_news hc had) (by simpa using leaf_one hr) hA (by simp; omega)
  refine ⟨v', w', hrun, ?_, fun i hi => ?_, fun i j hi hj hij g hg hg' => ?_, fun i hi g hg => ?_⟩
  · have e : (List.range (D ++ [r]).length).map (fun i => if i = D.length then u else V i) = (List.range D.length).map V ++ [u] := by
      rw [List.length_append, List.length_singleton, List.range_succ, List.map_append]
      congr 1
      · refine List.map_congr_left fun i hi => ?_
        have := List.mem_range.1 hi
        rw [if_neg (by omega)]
      · simp
    rw [e]; exact ha
  · simp only [List.length_append, List.length_singleton] at hi
    rw [row_app]
    by_cases e : i = D.length
    · simp only [if_pos e]; exact hb.leaf hA.2 (by decide) hr
    · simp only [if_neg e]; exact hb.leaf hA.2 (by decide) (h2 i (by omega))
  · simp only [List.length_append, List.length_singleton] at hi hj
    by_cases e : i = D.length
    · simp only [if_pos e] at hg
      by_cases e2 : j = D.length
      · omega
      · simp only [if_neg e2] at hg'
        exact (hfr g hg).2 j (by omega) hg'
    · simp only [if_neg e] at hg
      by_cases e2 : j = D.length
      · simp only [if_pos e2] at hg'
        exact (hfr g hg').2 i (by omega) hg
      · simp only [if_neg e2] at hg'
        exact h3 i j (by omega) (by omega) hij g hg hg'
  · simp only [List.length_append, List.length_singleton] at hi
    by_cases e : i = D.length
    · simp only [if_pos e] at hg; exact (hfr g hg).1
    · simp only [if_neg e] at hg; exact h4 i (by omega) g hg
theorem rows_run {P : Program} {w0 wr W W' : World} {T E ty : TypeId} (hE : E = 22)
    (ht : P.underlying T = some (.slice E)) (hinfo : (P.info? E).map (fun i => (i.zero, i.size, i.bytes)) = some (some (.slice none 0 0), 1, 24))
    (v u : Value) {k : Nat} (xs : List Int) (ad : Addr) (c : Nat) (had : ad.spot = none) (h : RowsM w0 wr v k) (hr : Acc wr W 3 u (xs.map (Value.int .i64))) (hW : Ext W W') (hc : W'.cell? ad = some u) (hl : k ≤ 1000) :
    ∃ v' w', (Builtin.append_ #[T, T] ty #[v, .slice (some ad) 1 c]).run P W' = .ok v' w' ∧ RowsM w0 w' v' (k + 1) := by
  obtain ⟨D, V, rfl, h1⟩ := h
  have hlt : ∀ i, i < D.length → ∀ g ∈ lb (V i), g < wr.heap.size := fun i hi g hg => (h1.2.1 i hi).lt hg
  have hx0 := h1.x.size
  obtain ⟨hleaf, hge⟩ := Leaf.of_own hr.2
  obtain ⟨v', w', hrun, ha⟩ := appM_run (ty := ty) hE ht hinfo v u D xs V ad c had hc (h1.on (hr.1.trans hW)) (hleaf.ext hW) (fun g hg => ⟨by have := hge g hg; omega, fun i hi hg' => by have := hlt i hi g hg'; have := hge g hg; omega⟩) (by omega)
  exact ⟨v', w', hrun, _, _, by simp, ha⟩
theorem blk_one (w : World) (A : Obj) : (w.alloc A).drew.heap[w.heap.size]? = some A := heap_alloc_new w A
theorem blk_second (w : World) (A B : Obj) : ((w.alloc A).alloc B).drew.heap[w.heap.size + 1]? = some B := by
  have h1 := heap_alloc_new (w.alloc A) B
  have e : (w.alloc A).heap.size = w.heap.size + 1 := by simp
  rw [e] at h1
  exact h1
theorem blk_first (w : World) (A B : Obj) : ((w.alloc A).alloc B).drew.heap[w.heap.size]? = some A := by
  rw [← blk_one w A]
  exact Below.heap_alloc (w.alloc A) B _ (by simp)
end Go.Proofs.YtjpgjmhdjepfgaaDoor
