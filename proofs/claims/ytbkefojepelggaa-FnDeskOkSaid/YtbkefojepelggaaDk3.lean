/- What is proved: words for desks in memory of one's own: rows, spaces of before, all blocks apart and from a base on; append of rows to spaces of before. Conditions: those of each law. -/
import Derived.Test.YtbkefojepelggaaCopy
import Derived.Test.YtbkefojepelggaaObj
import Derived.Test.YtbkefojepelggaaDk2
namespace Go.Proofs.Ytbkefojepelggaa
open Go.RowKit
/-- rows of one's own -/
def OwnM (b : Nat) (W : World) (u : Value) (D : List (List Int)) (V : Nat → Value) : Prop :=
  W.ownsRow b 31 1 u ((List.range D.length).map V).length ((List.range D.length).map V) ∧ (∀ i, i < D.length → Leaf W (V i) (row D i)) ∧ Dis D.length V ∧ (∀ i, i < D.length → ∀ g ∈ lb (V i), b ≤ g)
theorem AccM.own {w0 W : World} {u : Value} {D : List (List Int)} {V : Nat → Value} (h : AccM w0 W u D V) : OwnM w0.heap.size W u D V := ⟨h.1.2, h.2.1, h.2.2.1, h.2.2.2⟩
theorem OwnM.acc {w0 W : World} {u : Value} {D : List (List Int)} {V : Nat → Value} (h : OwnM w0.heap.size W u D V) (k : Ext w0 W) : AccM w0 W u D V := ⟨⟨k, h.1⟩, h.2.1, h.2.2.1, h.2.2.2⟩
/-- blocks of numbers, rows and slices of rows from b on stay -/
def KeepB (b : Nat) (w w' : World) : Prop := ∀ (g : Nat) (cs : Array Value) (t : TypeId), b ≤ g → w.heap[g]? = some (.cells cs t (0, 0)) → (t = 3 ∨ t = 31 ∨ t = 23) → w'.heap[g]? = w.heap[g]?
theorem KeepB.of_ext {b : Nat} {w w' : World} (h : Ext w w') : KeepB b w w' := fun _ _ _ _ hg _ => h.block (heap_lt hg)
theorem KeepB.of_g {b g : Nat} {w w' : World} (h : ExtG g w w') (hg : g < b) : KeepB b w w' := fun q _ _ hq hh _ => h.2.2.2.2 q (heap_lt hh) (by omega)
theorem KeepB.trans {b : Nat} {x y z : World} (h : KeepB b x y) (k : KeepB b y z) : KeepB b x z := fun g cs t hb hg ht => (k g cs t hb ((h g cs t hb hg ht).trans hg) ht).trans (h g cs t hb hg ht)
theorem KeepB.set {b : Nat} {w : World} {p : Addr} {cs : Array Value} {t : TypeId} {fz : Nat × Nat} (hp : w.heap[p.block]? = some (.cells cs t fz)) (ht : t ≠ 3 ∧ t ≠ 31 ∧ t ≠ 23) (u : Value) : KeepB b w (w.setCell p u) := fun g cs' t' _ hg ht' =>
  Below.heap_setCell _ _ _ _ fun e => by
    subst e
    rw [hp] at hg
    injection hg with hg; injection hg with _ hg
    subst hg
    rcases ht' with h | h | h
    · exact ht.1 h
    · exact ht.2.1 h
    · exact ht.2.2 h
theorem KeepB.keepT {b : Nat} {w w' : World} (h : KeepT w w') : KeepB b w w' := fun g cs t _ hg ht => h g cs t (0, 0) hg ht
theorem own_keep {b : Nat} {w w' : World} {E : TypeId} {v : Value} {n : Nat} {xs : List Value} (h : w.ownsRow b E 1 v n xs) (k : KeepB b w w') (hE : E = 3 ∨ E = 31 ∨ E = 23) : w'.ownsRow b E 1 v n xs := by
  obtain ⟨h1, h2⟩ := h
  refine ⟨h1, ?_⟩
  rcases h2 with h3 | ⟨g, cap, cur, e1, e2, e3, e4⟩
  · exact .inl h3
  · exact .inr ⟨g, cap, cur, e1, e2, (k g cur E e2 e3 hE).trans e3, e4⟩
/-- blocks of numbers and of rows from b on stay -/
def KeepR (b : Nat) (w w' : World) : Prop := ∀ (g : Nat) (cs : Array Value) (t : TypeId), b ≤ g → w.heap[g]? = some (.cells cs t (0, 0)) → (t = 3 ∨ t = 31) → w'.heap[g]? = w.heap[g]?
theorem KeepB.r {b : Nat} {w w' : World} (h : KeepB b w w') : KeepR b w w' := fun g cs t hb hg ht => h g cs t hb hg (by rcases ht with h | h <;> simp [h])
theorem OwnM.keepR {b : Nat} {w w' : World} {u : Value} {D : List (List Int)} {V : Nat → Value} (h : OwnM b w u D V) (k : KeepR b w w') : OwnM b w' u D V := by
  obtain ⟨h1, h2, h3, h4⟩ := h
  refine ⟨⟨h1.1, h1.2.imp id fun ⟨g, cap, cur, e1, e2, e3, e4⟩ => ⟨g, cap, cur, e1, e2, (k g cur _ e2 e3 (.inr rfl)).trans e3, e4⟩⟩, fun i hi => (h2 i hi).keep fun g hg => ?_, h3, h4⟩
  obtain ⟨cs, hb⟩ := (h2 i hi).blocks g hg
  exact k g cs _ (h4 i hi g hg) hb (.inl rfl)
theorem OwnM.keep {b : Nat} {w w' : World} {u : Value} {D : List (List Int)} {V : Nat → Value} (h : OwnM b w u D V) (k : KeepB b w w') : OwnM b w' u D V := h.keepR k.r
theorem OwnM.low {b b' : Nat} {w : World} {u : Value} {D : List (List Int)} {V : Nat → Value} (h : OwnM b w u D V) (k : b' ≤ b) : OwnM b' w u D V :=
  ⟨⟨h.1.1, h.1.2.imp id fun ⟨g, cap, cur, h1, h2, h3⟩ => ⟨g, cap, cur, h1, Nat.le_trans k h2, h3⟩⟩, h.2.1, h.2.2.1, fun i hi g hg => Nat.le_trans k (h.2.2.2 i hi g hg)⟩
theorem OwnM.obj {b : Nat} {w : World} {u : Value} {D : List (List Int)} {V : Nat → Value} (h : OwnM b w u D V) : ∃ A c, u = .slice A D.length c ∧ ObjM b w A c D V := by
  obtain ⟨h1, h2, h3, h4⟩ := h
  rcases h1.2 with ⟨rfl, h0⟩ | ⟨g, cap, cur, rfl, hb, hg, hc, hm, hs, ht⟩
  · have h0 : D.length = 0 := by simpa using h0
    have : D = [] := List.eq_nil_of_length_eq_zero h0
    subst this
    exact ⟨none, 0, rfl, ObjM.nil _ _ _ _ (Nat.zero_le _) _⟩
  · simp only [List.length_map, List.length_range, Nat.mul_one] at hc ht ⊢
    refine ⟨some ⟨g, 0, none⟩, cap, rfl, hc, hm, fun _ => ⟨g, cur, rfl, hb, hg, fun i hi => ?_⟩, h2, h3, h4⟩
    have e : (cur.toList.take D.length)[i]? = ((List.range D.length).map V)[i]? := by rw [ht]
    rw [List.getElem?_take, if_pos hi] at e
    rw [← Array.getElem?_toList, e]
    simp [hi]
theorem OwnM.mat {b : Nat} {w : World} {u : Value} {D : List (List Int)} {V : Nat → Value} (h : OwnM b w u D V) : ∃ A c, u = .slice A D.length c ∧ Mat w A c D := by
  obtain ⟨A, c, e, hO⟩ := h.obj
  exact ⟨A, c, e, hO.mat⟩
theorem OwnM.lt {b : Nat} {w : World} {u : Value} {D : List (List Int)} {V : Nat → Value} (h : OwnM b w u D V) {i g : Nat} (hi : i < D.length) (hg : g ∈ lb (V i)) : g < w.heap.size := (h.2.1 i hi).lt hg
/-- the leaves of different lists of rows are apart -/
def Cross (L : List (List (List Int))) (V : Nat → Nat → Value) : Prop := ∀ i j, i < L.length → j < L.length → i ≠ j → ∀ p, p < (nth L i).length → ∀ q, q < (nth L j).length → ∀ g ∈ lb (V i p), g ∉ lb (V j q)
/-- spaces of before of one's own -/
def OwnS (b : Nat) (W : World) (v : Value) (L : List (List (List Int))) (U : Nat → Value) (V : Nat → Nat → Value) : Prop :=
  W.ownsRow b 23 1 v ((List.range L.length).map U).length ((List.range L.length).map U) ∧ (∀ j, j < L.length → OwnM b W (U j) (nth L j) (V j)) ∧ Cross L V
theorem OwnS.keep {b : Nat} {w w' : World} {v : Value} {L : List (List (List Int))} {U : Nat → Value} {V : Nat → Nat → Value} (h : OwnS b w v L U V) (k : KeepB b w w') : OwnS b w' v L U V :=
  ⟨own_keep h.1 k (.inr (.inr rfl)), fun j hj => (h.2.1 j hj).keep k, h.2.2⟩
theorem OwnS.low {b b' : Nat} {w : World} {v : Value} {L : List (List (List Int))} {U : Nat → Value} {V : Nat → Nat → Value} (h : OwnS b w v L U V) (k : b' ≤ b) : OwnS b' w v L U V :=
  ⟨⟨h.1.1, h.1.2.imp id fun ⟨g, cap, cur, h1, h2, h3⟩ => ⟨g, cap, cur, h1, Nat.le_trans k h2, h3⟩⟩, fun j hj => (h.2.1 j hj).low k, h.2.2⟩
theorem OwnS.nil (b : Nat) (w : World) (U : Nat → Value) (V : Nat → Nat → Value) : OwnS b w (.slice none 0 0) [] U V :=
  ⟨World.ownsRow_nil _ _ _ _, fun j hj => absurd hj (by simp), fun i j hi => absurd hi (by simp)⟩
theorem OwnS.parts {b : Nat} {w : World} {v : Value} {L : List (List (List Int))} {U : Nat → Value} {V : Nat → Nat → Value} (h : OwnS b w v L U V) :
    ∃ A c, v = .slice A L.length c ∧ L.length ≤ c ∧ c ≤ maxLen ∧ (0 < L.length → ∃ g, A = some ⟨g, 0, none⟩ ∧ b ≤ g ∧ (∃ cur, w.heap[g]? = some (.cells cur 23 (0, 0))) ∧ ∀ i, i < L.length → w.cell? ⟨g, i, none⟩ = some (U i)) := by
  obtain ⟨h1, h2, h3⟩ := h
  rcases h1.2 with ⟨rfl, h0⟩ | ⟨g, cap, cur, rfl, hb, hg, hc, hm, hs, ht⟩
  · have h0 : L.length = 0 := by simpa using h0
    exact ⟨none, 0, by rw [h0], by omega, by unfold maxLen; omega, fun h => absurd h (by omega)⟩
  · simp only [List.length_map, List.length_range, Nat.mul_one] at hc ht ⊢
    refine ⟨some ⟨g, 0, none⟩, cap, rfl, hc, hm, fun _ => ⟨g, rfl, hb, ⟨cur, hg⟩, fun i hi => ?_⟩⟩
    have e : (cur.toList.take L.length)[i]? = ((List.range L.length).map U)[i]? := by rw [ht]
    rw [List.getElem?_take, if_pos hi] at e
    rw [cell_cells hg, ← Array.getElem?_toList, e]
    simp [hi]
theorem OwnS.mats {b : Nat} {w : World} {v : Value} {L : List (List (List Int))} {U : Nat → Value} {V : Nat → Nat → Value} (h : OwnS b w v L U V) : ∃ A c, v = .slice A L.length c ∧ MatS w A c L := by
  obtain ⟨A, c, e, h1, h2, h3⟩ := h.parts
  refine ⟨A, c, e, h1, h2, ?_⟩
  by_cases h0 : 0 < L.length
  · obtain ⟨g, rfl, -, -, hc⟩ := h3 h0
    refine ⟨g, 0, fun _ => rfl, fun i hi => ?_⟩
    obtain ⟨Ar, cr, eu, hM⟩ := (h.2.1 i hi).mat
    exact ⟨Ar, cr, by rw [Nat.zero_add, hc i hi, eu], hM⟩
  · exact ⟨0, 0, fun q => absurd q h0, fun i hi => absurd hi (by omega)⟩
theorem nth_app {L : List (List (List Int))} {E : List (List Int)} {i : Nat} : nth (L ++ [E]) i = if i = L.length then E else nth L i := by
  unfold nth
  by_cases h : i < L.length
  · rw [if_neg (by omega)]; simp [List.getD, List.getElem?_append_left h]
  · by_cases e : i = L.length
    · subst e; simp
    · rw [if_neg e]
      have h1 : (L ++ [E])[i]? = none := List.getElem?_eq_none (by simp; omega)
      have h2 : L[i]? = none := List.getElem?_eq_none (by omega)
      simp [List.getD, h1, h2]
theorem Beside.keepR {v : Value} {W W' : World} {b : Nat} {n : Nat} {xs : List Value} (h : Beside v W W') (ho : W.ownsRow b 23 1 v n xs) {g : Nat} {cs : Array Value} {t : TypeId} {fz : Nat × Nat} (hg : W.heap[g]? = some (.cells cs t fz)) (ht : t ≠ 23) : W'.heap[g]? = W.heap[g]? := by
  rw [hg]
  exact h.block ho (fun e => ht e.symm) hg
/-- one space more -/
theorem ownS_pushS {P : Program} {w0 W : World} {T E ty : TypeId} (hE : E = 23)
    (ht : P.underlying T = some (.slice E)) (hinfo : (P.info? E).map (fun i => (i.zero, i.size, i.bytes)) = some (some (.slice none 0 0), 1, 24))
    {v u : Value} {L : List (List (List Int))} {U : Nat → Value} {V : Nat → Nat → Value} {X : List (List Int)} {Z : Nat → Value} {ad : Addr} {c : Nat} (had : ad.spot = none) (hc : W.cell? ad = some u) (hx : Ext w0 W)
    (hS : OwnS w0.heap.size W v L U V) (hM : OwnM w0.heap.size W u X Z) (hfr : ∀ p, p < X.length → ∀ j, j < L.length → ∀ q, q < (nth L j).length → ∀ g ∈ lb (Z p), g ∉ lb (V j q)) (hl : L.length ≤ 1000) :
    ∃ v' w', (Builtin.append_ #[T, T] ty #[v, .slice (some ad) 1 c]).run P W = .ok v' w' ∧
      (Ext w0 w' ∧ OwnS w0.heap.size w' v' (L ++ [X]) (fun j => if j = L.length then u else U j) (fun j => if j = L.length then Z else V j) ∧ W.heap.size ≤ w'.heap.size ∧
        (∀ (g : Nat) (cs : Array Value) (t : TypeId) (fz : Nat × Nat), W.heap[g]? = some (.cells cs t fz) → t ≠ 23 → w'.heap[g]? = W.heap[g]?) ∧ Beside v W w' ∧ Stays v v' W.heap.size) := by
  subst hE
  obtain ⟨hA, h2, h3⟩ := hS
  have hu1 : u.oneCell' = true := by
    obtain ⟨A, c, rfl, -⟩ := hM.mat
    rfl
  obtain ⟨v', w', hrun, ⟨ha1, ha2⟩, hb, hst⟩ := app_run (w0 := w0) (ty := ty) ht hinfo rfl (by decide) v _ ad 1 c [u] rfl (one_news hc had) (by simpa using hu1) ⟨hx, hA⟩ (by simp; omega)
  have hkeep : ∀ (g : Nat) (cs : Array Value) (t : TypeId) (fz : Nat × Nat), W.heap[g]? = some (.cells cs t fz) → t ≠ 23 → w'.heap[g]? = W.heap[g]? := fun g cs t fz hg ht => hb.keepR hA hg ht
  have hkM : ∀ {y : Value} {D : List (List Int)} {Y : Nat → Value}, OwnM w0.heap.size W y D Y → OwnM w0.heap.size w' y D Y := fun hy =>
    hy.keepR fun g cs t _ hg ht => hkeep g cs t _ hg (by rcases ht with h | h <;> (rw [h]; decide))
  refine ⟨v', w', hrun, ha1, ⟨?_, fun j hj => ?_, fun i j hi hj hij p hp q hq g hg hg' => ?_⟩, hb.1, hkeep, hb, hst⟩
  · have e : (List.range (L ++ [X]).length).map (fun i => if i = L.length then u else U i) = (List.range L.length).map U ++ [u] := by
      rw [List.length_append, List.length_singleton, List.range_succ, List.map_append]
      congr 1
      · refine List.map_congr_left fun i hi => ?_
        have := List.mem_range.1 hi
        rw [if_neg (by omega)]
      · simp
    rw [e]; exact ha2
  · simp only [List.length_append, List.length_singleton] at hj
    rw [nth_app]
    by_cases e : j = L.length
    · simp only [if_pos e]; exact hkM hM
    · simp only [if_neg e]; exact hkM (h2 j (by omega))
  · simp only [List.length_append, List.length_singleton] at hi hj
    rw [nth_app] at hp hq
    by_cases e : i = L.length
    · have e2 : ¬ j = L.length := by omega
      simp only [if_pos e] at hg hp
      simp only [if_neg e2] at hg' hq
      exact hfr p hp j (by omega) q hq g hg hg'
    · simp only [if_neg e] at hg hp
      by_cases e2 : j = L.length
      · simp only [if_pos e2] at hg' hq
        exact hfr q hq i (by omega) p hp g hg' hg
      · simp only [if_neg e2] at hg' hq
        exact h3 i j (by omega) (by omega) hij p hp q hq g hg hg'
theorem ownS_push {P : Program} {w0 W : World} {T E ty : TypeId} (hE : E = 23)
    (ht : P.underlying T = some (.slice E)) (hinfo : (P.info? E).map (fun i => (i.zero, i.size, i.bytes)) = some (some (.slice none 0 0), 1, 24))
    {v u : Value} {L : List (List (List Int))} {U : Nat → Value} {V : Nat → Nat → Value} {X : List (List Int)} {Z : Nat → Value} {ad : Addr} {c : Nat} (had : ad.spot = none) (hc : W.cell? ad = some u) (hx : Ext w0 W)
    (hS : OwnS w0.heap.size W v L U V) (hM : OwnM w0.heap.size W u X Z) (hfr : ∀ p, p < X.length → ∀ j, j < L.length → ∀ q, q < (nth L j).length → ∀ g ∈ lb (Z p), g ∉ lb (V j q)) (hl : L.length ≤ 1000) :
    ∃ v' w', (Builtin.append_ #[T, T] ty #[v, .slice (some ad) 1 c]).run P W = .ok v' w' ∧
      (Ext w0 w' ∧ OwnS w0.heap.size w' v' (L ++ [X]) (fun j => if j = L.length then u else U j) (fun j => if j = L.length then Z else V j) ∧ W.heap.size ≤ w'.heap.size ∧
        (∀ (g : Nat) (cs : Array Value) (t : TypeId) (fz : Nat × Nat), W.heap[g]? = some (.cells cs t fz) → t ≠ 23 → w'.heap[g]? = W.heap[g]?) ∧ Beside v W w') := by
  obtain ⟨v', w', h1, h2, h3, h4, h5, h6, -⟩ := ownS_pushS (ty := ty) hE ht hinfo had hc hx hS hM hfr hl
  exact ⟨v', w', h1, h2, h3, h4, h5, h6⟩
/-- a desk of one's own -/
def OwnDk (b : Nat) (W : World) (v : Value) (D : List (List Int)) (L : List (List (List Int))) : Prop :=
  ∃ v1 v2 Z U V, v = .agg #[v1, v2] ∧ OwnM b W v1 D Z ∧ OwnS b W v2 L U V ∧ ∀ p, p < D.length → ∀ j, j < L.length → ∀ q, q < (nth L j).length → ∀ g ∈ lb (Z p), g ∉ lb (V j q)
theorem OwnDk.keep {b : Nat} {w w' : World} {v : Value} {D : List (List Int)} {L : List (List (List Int))} (h : OwnDk b w v D L) (k : KeepB b w w') : OwnDk b w' v D L := by
  obtain ⟨v1, v2, Z, U, V, e, h1, h2, h3⟩ := h
  exact ⟨v1, v2, Z, U, V, e, h1.keep k, h2.keep k, h3⟩
theorem OwnDk.low {b b' : Nat} {w : World} {v : Value} {D : List (List Int)} {L : List (List (List Int))} (h : OwnDk b w v D L) (k : b' ≤ b) : OwnDk b' w v D L := by
  obtain ⟨v1, v2, Z, U, V, e, h1, h2, h3⟩ := h
  exact ⟨v1, v2, Z, U, V, e, h1.low k, h2.low k, h3⟩
/-- a desk to be read -/
def DeskM (W : World) (v : Value) (D : List (List Int)) (L : List (List (List Int))) : Prop :=
  ∃ A c B d, v = .agg #[.slice A D.length c, .slice B L.length d] ∧ Mat W A c D ∧ MatS W B d L
theorem DeskM.ext {W W' : World} {v : Value} {D : List (List Int)} {L : List (List (List Int))} (h : DeskM W v D L) (k : Ext W W') : DeskM W' v D L := by
  obtain ⟨A, c, B, d, e, h1, h2⟩ := h
  exact ⟨A, c, B, d, e, h1.ext k, h2.ext k⟩
theorem OwnDk.desk {b : Nat} {w : World} {v : Value} {D : List (List Int)} {L : List (List (List Int))} (h : OwnDk b w v D L) : DeskM w v D L := by
  obtain ⟨v1, v2, Z, U, V, e, h1, h2, h3⟩ := h
  obtain ⟨A, c, rfl, hM⟩ := h1.mat
  obtain ⟨B, d, rfl, hS⟩ := h2.mats
  exact ⟨A, c, B, d, e, hM, hS⟩
theorem OwnS.mats_of {b : Nat} {w : World} {A : Option Addr} {n c : Nat} {L : List (List (List Int))} {U : Nat → Value} {V : Nat → Nat → Value} (h : OwnS b w (.slice A n c) L U V) : n = L.length ∧ MatS w A c L := by
  obtain ⟨A', c', e, hM⟩ := h.mats
  injection e with e1 e2 e3
  subst e1; subst e3
  exact ⟨e2, hM⟩
end Go.Proofs.Ytbkefojepelggaa
