/- What is proved: words and laws for a list of deeds of one's own that is appended to. Conditions: sizes. -/
import Derived.Test.YtcejdgnfmcgopaaGreatDoorDls
import Derived.Test.YtcejdgnfmcgopaaGreatDoorPa
namespace Go.Proofs.YtcejdgnfmcgopaaGreatDoor
open Go.RowKit
theorem infoDeed : (Tryz.prog.info? 56).map (fun i => (i.zero, i.size, i.bytes)) = some (some (.agg #[.int .i64 0, .slice none 0 0]), 2, 32) := by kernel_rfl
/-- the cells of n deeds -/
def flatR (ds : List (Int × List Int)) (V : Nat → Value) : Nat → List Value
  | 0 => []
  | n + 1 => flatR ds V n ++ [.int .i64 (dk ds n), V n]
theorem flatR_len (ds : List (Int × List Int)) (V : Nat → Value) (n : Nat) : (flatR ds V n).length = n * 2 := by
  induction n with
  | zero => rfl
  | succ n ih => show (flatR ds V n ++ [_, _]).length = _; rw [List.length_append, ih]; simp; omega
theorem flatR_get (ds : List (Int × List Int)) (V : Nat → Value) {n i : Nat} (hi : i < n) : (flatR ds V n)[i * 2]? = some (.int .i64 (dk ds i)) ∧ (flatR ds V n)[i * 2 + 1]? = some (V i) := by
  induction n with
  | zero => omega
  | succ n ih =>
    show (flatR ds V n ++ [_, _])[i * 2]? = _ ∧ (flatR ds V n ++ [_, _])[i * 2 + 1]? = _
    by_cases h : i < n
    · rw [List.getElem?_append_left (by rw [flatR_len]; omega), List.getElem?_append_left (by rw [flatR_len]; omega)]
      exact ih h
    · obtain rfl : i = n := by omega
      rw [List.getElem?_append_right (by rw [flatR_len]; omega), List.getElem?_append_right (by rw [flatR_len]; omega), flatR_len]
      exact ⟨by simp, by simp⟩
theorem flatR_same {ds es : List (Int × List Int)} {V U : Nat → Value} (n : Nat) (h : ∀ i, i < n → dk ds i = dk es i ∧ V i = U i) : flatR ds V n = flatR es U n := by
  induction n with
  | zero => rfl
  | succ n ih =>
    show flatR ds V n ++ _ = flatR es U n ++ _
    rw [ih fun i hi => h i (by omega), (h n (by omega)).1, (h n (by omega)).2]
theorem dk_app {ds : List (Int × List Int)} {k : Int} {xs : List Int} {i : Nat} (h : i < ds.length) : dk (ds ++ [(k, xs)]) i = dk ds i ∧ dx (ds ++ [(k, xs)]) i = dx ds i := by
  unfold dk dx
  rw [List.getD_eq_getElem?_getD, List.getElem?_append_left h, ← List.getD_eq_getElem?_getD]
  exact ⟨rfl, rfl⟩
theorem dk_last {ds : List (Int × List Int)} {k : Int} {xs : List Int} : dk (ds ++ [(k, xs)]) ds.length = k ∧ dx (ds ++ [(k, xs)]) ds.length = xs := by
  unfold dk dx
  simp
/-- a list of deeds in memory of one's own: the leaves V lie apart -/
def OwnDs (base : Nat) (W : World) (v : Value) (ds : List (Int × List Int)) (V : Nat → Value) : Prop :=
  W.ownsRow base 56 2 v ds.length (flatR ds V ds.length) ∧ (∀ i, i < ds.length → Leaf W (V i) (dx ds i)) ∧ (∀ i, i < ds.length → ∀ g ∈ lb (V i), base ≤ g) ∧ Dis ds.length V
theorem OwnDs.nil (base : Nat) (W : World) (V : Nat → Value) : OwnDs base W (.slice none 0 0) [] V :=
  ⟨World.ownsRow_nil _ _ _ _, fun i hi => absurd hi (by simp), fun i hi => absurd hi (by simp), fun i _ hi => absurd hi (by simp)⟩
theorem OwnDs.made {base : Nat} {W : World} (h : base ≤ W.heap.size) (V : Nat → Value) : OwnDs base (W.alloc (.cells #[] 56)) (.slice (some ⟨W.heap.size, 0, none⟩) 0 0) [] V :=
  ⟨World.ownsRow_made W #[] 0 h (Nat.zero_le _) rfl, fun i hi => absurd hi (by simp), fun i hi => absurd hi (by simp), fun i _ hi => absurd hi (by simp)⟩
/-- blocks of numbers and of deeds, from b on, stay -/
def KeepE (b : Nat) (w w' : World) : Prop := ∀ (g : Nat) (cs : Array Value) (t : TypeId), b ≤ g → w.heap[g]? = some (.cells cs t (0, 0)) → (t = 3 ∨ t = 56) → w'.heap[g]? = w.heap[g]?
theorem KeepE.of_ext {b : Nat} {w w' : World} (h : Ext w w') : KeepE b w w' := fun _ _ _ _ hg _ => h.block (heap_lt hg)
theorem KeepE.trans {b : Nat} {x y z : World} (h : KeepE b x y) (k : KeepE b y z) : KeepE b x z := fun g cs t hb hg ht => (k g cs t hb ((h g cs t hb hg ht).trans hg) ht).trans (h g cs t hb hg ht)
theorem OwnDs.keep {b : Nat} {w w' : World} {v : Value} {ds : List (Int × List Int)} {V : Nat → Value} (h : OwnDs b w v ds V) (k : KeepE b w w') : OwnDs b w' v ds V := by
  obtain ⟨h1, h2, h3, h4⟩ := h
  refine ⟨⟨h1.1, ?_⟩, fun i hi => (h2 i hi).keep fun g hg => ?_, h3, h4⟩
  · rcases h1.2 with q | ⟨g, cap, cur, e1, e2, e3, e4⟩
    · exact .inl q
    · exact .inr ⟨g, cap, cur, e1, e2, (k g cur _ e2 e3 (.inr rfl)).trans e3, e4⟩
  · obtain ⟨cs, hb⟩ := (h2 i hi).blocks g hg
    exact k g cs _ (h3 i hi g hg) hb (.inl rfl)
theorem OwnDs.low {b b' : Nat} {w : World} {v : Value} {ds : List (Int × List Int)} {V : Nat → Value} (h : OwnDs b w v ds V) (k : b' ≤ b) : OwnDs b' w v ds V := by
  obtain ⟨h1, h2, h3, h4⟩ := h
  refine ⟨⟨h1.1, ?_⟩, h2, fun i hi g hg => Nat.le_trans k (h3 i hi g hg), h4⟩
  rcases h1.2 with q | ⟨g, cap, cur, e1, e2, e3, e4⟩
  · exact .inl q
  · exact .inr ⟨g, cap, cur, e1, by omega, e3, e4⟩
theorem OwnDs.row {b : Nat} {w : World} {v : Value} {ds : List (Int × List Int)} {V : Nat → Value} (h : OwnDs b w v ds V) :
    ∃ A c, v = .slice A ds.length c ∧ ds.length ≤ c ∧ c ≤ maxLen ∧ ∃ g, (0 < ds.length → A = some ⟨g, 0, none⟩ ∧ b ≤ g ∧ ∃ cur, w.heap[g]? = some (.cells cur 56 (0, 0))) ∧ ∀ i, i < ds.length → w.cell? ⟨g, 0 + i * 2, none⟩ = some (.int .i64 (dk ds i)) ∧ w.cell? ⟨g, 0 + i * 2 + 1, none⟩ = some (V i) := by
  obtain ⟨h1, -, -, -⟩ := h
  rcases h1.2 with ⟨rfl, h0⟩ | ⟨g, cap, cur, rfl, hb, hg, hc, hm, hs, ht⟩
  · rw [h0]
    exact ⟨none, 0, rfl, Nat.le_refl _, Nat.zero_le _, 0, fun q => absurd q (by omega), fun i hi => absurd hi (by omega)⟩
  · refine ⟨_, cap, rfl, hc, hm, g, fun _ => ⟨rfl, hb, cur, hg⟩, fun i hi => ?_⟩
    obtain ⟨f1, f2⟩ := flatR_get ds V hi
    rw [← ht, List.getElem?_take, if_pos (by omega)] at f1 f2
    rw [cell_cells hg, cell_cells hg, Nat.zero_add, ← Array.getElem?_toList, ← Array.getElem?_toList]
    exact ⟨f1, f2⟩
theorem OwnDs.deeds {b : Nat} {w : World} {v : Value} {ds : List (Int × List Int)} {V : Nat → Value} (h : OwnDs b w v ds V) : ∃ A c, v = .slice A ds.length c ∧ DeedsM w A c ds := by
  obtain ⟨A, c, e, hc, hm, g, hA, hcell⟩ := h.row
  refine ⟨A, c, e, hc, hm, g, 0, fun q => (hA q).1, fun i hi => ?_⟩
  obtain ⟨X, cx, hv, hI⟩ := (h.2.1 i hi).ints
  obtain ⟨c1, c2⟩ := hcell i hi
  rw [hv] at c2
  exact ⟨X, cx, c1, c2, hI⟩
theorem OwnDs.real {b : Nat} {w : World} {A : Option Addr} {n c : Nat} {ds : List (Int × List Int)} {V : Nat → Value} (h : OwnDs b w (.slice A n c) ds V) (hne : (Value.slice A n c) ≠ .slice none 0 0) : ∃ g, A = some ⟨g, 0, none⟩ := by
  rcases h.1.2 with ⟨e, -⟩ | ⟨g, cap, cur, e, -⟩
  · exact absurd e hne
  · injection e with e1 e2 e3
    exact ⟨g, e1⟩
/-- one deed more -/
theorem OwnDs.push {P : Program} {base : Nat} {W : World} {T E ty : TypeId} (hE : E = 56) (ht : P.underlying T = some (.slice E)) (hinfo : (P.info? E).map (fun i => (i.zero, i.size, i.bytes)) = some (some (.agg #[.int .i64 0, .slice none 0 0]), 2, 32))
    {v : Value} {ds : List (Int × List Int)} {V : Nat → Value} (h : OwnDs base W v ds V) {kind : Int} {u : Value} {xs : List Int} (hu : Leaf W u xs) (hub : ∀ g ∈ lb u, base ≤ g) (hap : ∀ i, i < ds.length → ∀ g ∈ lb u, g ∉ lb (V i)) (ad : Addr) (c : Nat)
    (hc0 : W.cell? (ad.add 0) = some (.int .i64 kind)) (hc1 : W.cell? (ad.add 1) = some u) (hl : ds.length ≤ 1000000) (hbase : base ≤ W.heap.size) :
    ∃ v' w', (Builtin.append_ #[T, T] ty #[v, .slice (some ad) 1 c]).run P W = .ok v' w' ∧ OwnDs base w' v' (ds ++ [(kind, xs)]) (fun i => if i = ds.length then u else V i) ∧ W.grownBy w' v.ownBlock ∧ Stays v v' W.heap.size ∧ v' ≠ .slice none 0 0 := by
  subst hE
  obtain ⟨h1, h2, h3, h4⟩ := h
  obtain ⟨i0, hi, hz, hsz, hb⟩ := info_parts hinfo
  have hu1 : u.oneCell' = true := by
    obtain ⟨A, c, e, -⟩ := hu.ints
    rw [e]; rfl
  obtain ⟨v', w', hr, g2, g3, g4, g5⟩ := run_append_own_at (P := P) (w := W) base T ty 56 i0 (.agg #[.int .i64 0, .slice none 0 0]) 2 32 ht hi hz hsz hb rfl (by decide) v ds.length (flatR ds V ds.length) h1 ad 1 c [.int .i64 kind, u] rfl
    (fun j y hj => by
      match j, hj with
      | 0, hj => simp at hj; rw [← hj]; exact hc0
      | 1, hj => simp at hj; rw [← hj]; exact hc1
      | j + 2, hj => simp at hj)
    (fun y hy => by simp at hy; rcases hy with rfl | rfl; exact rfl; exact hu1) (by unfold maxLen; omega) (by omega) hbase
  have hkeep : ∀ u' ys, Leaf W u' ys → Leaf w' u' ys := fun u' ys hl' => hl'.keep fun g hg => g3.block g (hl'.lt hg) fun e => by
    obtain ⟨cs, hbk⟩ := hl'.blocks g hg
    rcases h1.2 with ⟨e0, _⟩ | ⟨g', cap, cur, e1, _, e3, _⟩
    · rw [e0] at e; simp [Value.ownBlock] at e
    · rw [e1] at e
      simp [Value.ownBlock] at e
      subst e
      rw [hbk] at e3
      injection e3 with e3
      injection e3 with _ e3
      exact absurd e3 (by decide)
  have hlen : (ds ++ [(kind, xs)]).length = ds.length + 1 := by rw [List.length_append, List.length_singleton]
  refine ⟨v', w', hr, ⟨?_, fun i hi => ?_, fun i hi => ?_, fun i j hi hj hne g hg => ?_⟩, g3, g5, fun e => absurd (g4.1 e).2 (by decide)⟩
  · have e : flatR (ds ++ [(kind, xs)]) (fun i => if i = ds.length then u else V i) (ds.length + 1) = flatR ds V ds.length ++ [.int .i64 kind, u] := by
      show flatR (ds ++ [(kind, xs)]) (fun i => if i = ds.length then u else V i) ds.length ++ [.int .i64 (dk (ds ++ [(kind, xs)]) ds.length), if ds.length = ds.length then u else V ds.length] = _
      rw [if_pos rfl, dk_last.1, flatR_same (es := ds) (U := V) ds.length fun i hi => ⟨(dk_app hi).1, if_neg (by omega)⟩]
    rw [hlen, e]
    exact g2
  · rw [hlen] at hi
    by_cases q : i = ds.length
    · subst q
      rw [dk_last.2]
      show Leaf w' (if ds.length = ds.length then u else _) xs
      rw [if_pos rfl]
      exact hkeep u xs hu
    · rw [(dk_app (by omega)).2]
      show Leaf w' (if i = ds.length then u else V i) _
      rw [if_neg q]
      exact hkeep _ _ (h2 i (by omega))
  · rw [hlen] at hi
    show ∀ g ∈ lb (if i = ds.length then u else V i), base ≤ g
    split
    · exact hub
    · exact h3 i (by omega)
  · rw [hlen] at hi hj
    show g ∉ lb (if j = ds.length then u else V j)
    have hg' : g ∈ lb (if i = ds.length then u else V i) := hg
    by_cases q : i = ds.length
    · rw [if_pos q] at hg'
      rw [if_neg (by omega)]
      exact hap j (by omega) g hg'
    · rw [if_neg q] at hg'
      by_cases r : j = ds.length
      · rw [if_pos r]
        exact fun k => hap i (by omega) g k hg'
      · rw [if_neg r]
        exact h4 i j (by omega) (by omega) hne g hg'
end Go.Proofs.YtcejdgnfmcgopaaGreatDoor
