/- What is proved: l20Space draws rows in memory of its own, at most six. Conditions: those of the contract. -/
import Derived.Test.YtbkefojepelggaaDrFar
namespace Go.Proofs.Ytbkefojepelggaa
open Go.RowKit
/-- rows drawn, in memory of their own -/
def DrawnM (w : World) (B g : Nat) (u : Int) (e : Ending) (w' : World) : Prop :=
  ∃ A c V D, e = .returned (.slice A (List.length D) c) ∧ ObjM w.heap.size w' A c D V ∧ D.length ≤ 6 ∧ RdU w' B g u ∧ ExtG g w w'
/-- a square under way -/
def SpS (w : World) (B g b c n : Nat) (V : Nat → Value) (u : Int) (wr : World) : Prop :=
  ∃ D, ObjF w.heap.size wr (some ⟨b, 0, none⟩) c n D V ∧ RdU wr B g u ∧ ExtG g w wr
theorem SpS.le {w : World} {B g b c n : Nat} {V : Nat → Value} {u u' : Int} {wr : World} (h : SpS w B g b c n V u wr) (k : u ≤ u') : SpS w B g b c n V u' wr := by
  obtain ⟨D, h1, h2, h3⟩ := h
  exact ⟨D, h1, h2.le k, h3⟩
theorem SpS.rd {w : World} {B g b c n : Nat} {V : Nat → Value} {u u' : Int} {wr w2 : World} (h : SpS w B g b c n V u wr) (hO : Only (fun x => x = g) wr w2) (hR : RdU w2 B g u') (hB : B ≤ w.heap.size) : SpS w B g b c n V u' w2 := by
  obtain ⟨D, h1, h2, h3⟩ := h
  exact ⟨D, h1.rd hO (by have := hR.lt; omega), hR, h3.rd hO⟩
theorem SpS.done {w : World} {B g b c n : Nat} {V : Nat → Value} {u : Int} {wr : World} (h : SpS w B g b c n V u wr) (hn : n ≤ 6) : DrawnM w B g u (.returned (.slice (some ⟨b, 0, none⟩) n c)) wr := by
  obtain ⟨D, h1, h2, h3⟩ := h
  have hl := h1.2.2.1
  exact ⟨_, c, V, D, by rw [hl], h1.1, by omega, h2, h3⟩
/-- the cells of place (i, j), and what a store there leaves -/
theorem SpS.cell {w : World} {B g b c n : Nat} {V : Nat → Value} {u : Int} {wr : World} (h : SpS w B g b c n V u wr) (hB : B ≤ w.heap.size) {i j : Nat} (hi : i < n) (hj : j < n) :
    ∃ q cr, wr.cell? ⟨b, i, none⟩ = some (.slice (some ⟨q, 0, none⟩) n cr) ∧ n ≤ cr ∧ cr ≤ maxLen ∧ (∃ y : Int, wr.cell? ⟨q, j, none⟩ = some (.int .i64 y)) ∧ wr.frozen? ⟨q, j, none⟩ = false ∧ ∀ x, SpS w B g b c n V u (wr.setCell ⟨q, j, none⟩ (.int .i64 x)) := by
  obtain ⟨D, h1, h2, h3⟩ := h
  obtain ⟨q, cr, hq⟩ := h1.sq
  obtain ⟨a1, a2, a3, a4, a5⟩ := hq i hi
  obtain ⟨c1, f1, S1⟩ := a5 j hj
  exact ⟨q i, cr i, a1, a2, a3, ⟨_, c1⟩, f1, fun x => ⟨_, S1 x, h2.set (p := ⟨q i, j, none⟩) (by show B ≤ q i; omega) _, h3.set (p := ⟨q i, j, none⟩) a4 _⟩⟩
theorem lb_own {v : Value} {g : Nat} (h : g ∈ lb v) : v.ownBlock = some g := by
  unfold lb at h
  split at h
  · simp at h; subst h; rfl
  · simp at h
/-- 'append(d[0], 0)': what is known of the new slice -/
def Grown (w : World) (B g b c n : Nat) (u : Int) (v' : Value) (w' : World) : Prop :=
  ∃ D V, D.length = n ∧ ObjM w.heap.size (w'.setCell ⟨b, 0, none⟩ v') (some ⟨b, 0, none⟩) c D V ∧ RdU (w'.setCell ⟨b, 0, none⟩ v') B g u ∧ ExtG g w (w'.setCell ⟨b, 0, none⟩ v')
theorem SpS.push {P : Program} {ops : Array Oper} {rest : List Oper} {o : Oper} {a : Act} {Q : Exit → Act → World → Prop} {w W : World} {T E : TypeId} {B g b c n : Nat} {V : Nat → Value} {u : Int} (hE : E = 3)
    (ht : P.underlying T = some (.slice E)) (hinfo : (P.info? E).map (fun i => (i.zero, i.size, i.bytes)) = some (some (.int .i64 0), 1, 8))
    (hgd : o.guard = none) (s x : Operand) (ho : o.op = .call { callee := .builtin .append, args := #[s, x], argTypes := #[T, T] })
    (v : Value) (hs : a.eval s = v) (hv : W.cell? ⟨b, 0, none⟩ = some v) (hx : a.eval x = .slice (some ⟨W.heap.size, 0, none⟩) 1 1) (h : SpS w B g b c n V u W) (hB : B ≤ w.heap.size) (h1 : 1 ≤ n) (h6 : n ≤ 6)
    (hk : ∀ A' l' c' w', (∃ y, w'.cell? ⟨b, 0, none⟩ = some y) → w'.frozen? ⟨b, 0, none⟩ = false → Grown w B g b c n u (.slice A' l' c') w' → wpList P ops Q rest (a.put o.dst (.slice A' l' c')) w') :
    wpList P ops Q (o :: rest) a (W.alloc (.cells #[.int .i64 0] E)) := by
  subst hE
  obtain ⟨D, ⟨hO, hsq, hl, hF⟩, hR, hX⟩ := h
  have hbase : w.heap.size ≤ W.heap.size := hX.size
  obtain ⟨Ar, cr, hV0, hcell, hfz, hbb, hbl, _, _⟩ := hO.row (i := 0) (by omega)
  rw [hcell] at hv
  injection hv with hv
  rw [hv] at hV0
  obtain ⟨q, cs, hq1, hq2, hq3⟩ := hF 0 (by omega)
  have hr0 : (row D 0).length = n := by rw [hsq 0 (by omega), hl]
  obtain ⟨o1, o2, o3, o4, o5, o6⟩ := id hO
  have hleaf := o4 0 (by omega)
  have hqlb : q ∈ lb (V 0) := by
    rw [hq1]
    obtain ⟨m, rfl⟩ : ∃ m, n = m + 1 := ⟨n - 1, by omega⟩
    simp [lb]
  have hqb := o6 0 (by omega) q hqlb
  have hown : W.ownsRow w.heap.size 3 1 v ((row D 0).map (Value.int .i64)).length ((row D 0).map (Value.int .i64)) := by
    refine ⟨by simp, .inr ⟨q, n, cs, by rw [← hV0, hq1]; simp [hr0], hqb, hq2, by simp [hr0], by unfold maxLen; omega, by omega, ?_⟩⟩
    obtain ⟨A', c', e, k1, k2, k3⟩ := hleaf
    obtain ⟨q', cs', e', hq', hcs'⟩ := k3 (by omega)
    rw [hq1] at e
    injection e with e1 e2 e3
    rw [e'] at e1
    injection e1 with e1; injection e1 with e1
    subst e1
    rw [hq2] at hq'
    injection hq' with hq'; injection hq' with hq'
    subst hq'
    rw [ix_map]
    refine List.ext_getElem? fun i => ?_
    rw [List.getElem?_take]
    by_cases hi : i < (row D 0).length
    · rw [if_pos (by simp; omega), Array.getElem?_toList, hcs' i hi]
      simp [hi]
    · rw [if_neg (by simp; omega), List.getElem?_eq_none (by simp; omega)]
  have hacc : Acc (cutW W w.heap.size) W 3 v ((row D 0).map (Value.int .i64)) := ⟨cut_ext hbase, by rw [cut_size hbase]; exact hown⟩
  refine wp_app ht hinfo rfl (by decide) hgd s x ho v (.int .i64 0) _ hs hx rfl hacc (by simp; omega) fun v' w' ha hb hst => ?_
  have hx' := ha.1
  obtain ⟨ha1, ha2⟩ := ha
  rw [cut_size hbase] at ha2
  have ha3 : w'.ownsRow w.heap.size 3 1 v' ((row D 0).map (Value.int .i64) ++ [Value.int .i64 0]).length ((row D 0 ++ [0]).map (Value.int .i64)) := by
    rw [List.map_append]; exact ha2
  obtain ⟨hl', hb'⟩ := Leaf.of_own ha3
  obtain ⟨b2, cs2, eb, hbase2, hh, hcs⟩ := o3 (by omega)
  injection eb with eb; injection eb with eb; subst eb
  have hh' : w'.heap[b]? = some (.cells cs2 31 (0, 0)) := hb.block hown (by decide) hh
  have hnb : ∀ {u : Value} {xs : List Int}, Leaf w' u xs → ∀ g' ∈ lb u, g' ≠ b := fun hL g' hg' e => by
    obtain ⟨cs3, h3⟩ := hL.blocks g' hg'
    rw [e, hh'] at h3
    injection h3 with h3; injection h3 with _ h3
    exact absurd h3 (by decide)
  have hkeep : ∀ (v' : Value) {u : Value} {xs : List Int}, Leaf w' u xs → Leaf (w'.setCell ⟨b, 0, none⟩ v') u xs := fun _ _ _ hL => hL.keep fun g' hg' => Below.heap_setCell _ _ _ _ (hnb hL g' hg')
  have hvown : v.ownBlock = some q := by rw [← hV0, hq1]; rfl
  have hoth : ∀ i, i < n → i ≠ 0 → Leaf w' (V i) (row D i) := fun i hi h0 => hb.leaf' (o4 i (by omega)) fun g' hg' e => by
    rw [hvown] at e
    injection e with e
    subst e
    exact o5 i 0 (by omega) (by omega) h0 _ hg' hqlb
  have hsz := hb.1
  obtain ⟨A', c', rfl, _⟩ := hl'.ints
  refine hk A' _ c' w' ⟨_, by rw [cell_cells hh', hcs 0 (by omega)]⟩ (frozen_cells hh' 0) ⟨D.set 0 (row D 0 ++ [0]), fun i => if i = 0 then .slice A' (row D 0 ++ [0]).length c' else V i, by simp [hl], ⟨by simpa using o1, o2, fun _ => ⟨b, cs2.setIfInBounds 0 (.slice A' (row D 0 ++ [0]).length c'), rfl, hbase2, ?_, fun i hi => ?_⟩, fun i hi => ?_, fun i j hi hj hij g1 hg1 hg2 => ?_, fun i hi g1 hg1 => ?_⟩, ?_, ?_⟩
  · simp [World.setCell, Array.getElem?_modify, hh']
  · have hi' : i < D.length := by simpa using hi
    have hsz2 : 0 < cs2.size := (Array.getElem?_eq_some_iff.1 (hcs 0 (by omega))).1
    rw [Array.getElem?_setIfInBounds]
    by_cases e : i = 0
    · subst e; simp [hsz2]
    · rw [if_neg (Ne.symm e), hcs i hi']; simp only [if_neg e]
  · have hi' : i < D.length := by simpa using hi
    rw [row_set (by omega)]
    by_cases e : i = 0
    · simp only [if_pos e]; exact hkeep _ hl'
    · simp only [if_neg e]; exact hkeep _ (hoth i (by omega) e)
  · have hi' : i < D.length := by simpa using hi
    have hj' : j < D.length := by simpa using hj
    have hnew : ∀ g1, g1 ∈ lb (.slice A' (row D 0 ++ [0]).length c') → g1 = q ∨ g1 = W.heap.size + 1 := fun g1 hg => by
      have h5 := lb_own hg
      rcases hst with h6 | h6
      · rw [h6, hvown] at h5; injection h5 with h5; exact .inl h5.symm
      · rw [h6] at h5; injection h5 with h5; exact .inr h5.symm
    by_cases e : i = 0
    · have e2 : ¬ j = 0 := fun k => hij (e.trans k.symm)
      simp only [if_pos e] at hg1
      simp only [if_neg e2] at hg2
      rcases hnew g1 hg1 with k | k
      · subst k; exact o5 j 0 hj' (by omega) e2 _ hg2 hqlb
      · have := (o4 j hj').lt hg2; omega
    · simp only [if_neg e] at hg1
      by_cases e2 : j = 0
      · simp only [if_pos e2] at hg2
        rcases hnew g1 hg2 with k | k
        · subst k; exact o5 i 0 hi' (by omega) e _ hg1 hqlb
        · have := (o4 i hi').lt hg1; omega
      · simp only [if_neg e2] at hg2
        exact o5 i j hi' hj' hij g1 hg1 hg2
  · have hi' : i < D.length := by simpa using hi
    by_cases e : i = 0
    · simp only [if_pos e] at hg1; exact hb' g1 hg1
    · simp only [if_neg e] at hg1; exact o6 i hi' g1 hg1
  · exact (hR.cut hx' hbase hB).set (p := ⟨b, 0, none⟩) (by show B ≤ b; omega) _
  · exact (hX.cut hx' hbase (Nat.le_refl _)).set (p := ⟨b, 0, none⟩) hbase2 _

end Go.Proofs.Ytbkefojepelggaa
