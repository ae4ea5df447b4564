/- What is proved: words for rows of one's own (leaves), and that the laws' copies toIntS, toIntSS are new memory that holds the same. Conditions: sizes up to 2^20. -/
import Derived.Test.YtjpgjmhdjepfgaaDoorHelp
import Derived.Deep.OwnRows
namespace Go.Proofs.YtjpgjmhdjepfgaaDoor
open Go.RowKit

theorem infoI : (Tryd.prog.info? 3).map (fun i => (i.zero, i.size, i.bytes)) = some (some (.int .i64 0), 1, 8) := by kernel_rfl
theorem infoR : (Tryd.prog.info? 22).map (fun i => (i.zero, i.size, i.bytes)) = some (some (.slice none 0 0), 1, 24) := by kernel_rfl

/-- the block of a slice that is not empty -/
def lb : Value → List Nat
  | .slice (some a) (_ + 1) _ => [a.block]
  | _ => []
/-- a slice value that holds the numbers xs from the head of a block of numbers on, none of them frozen -/
def Leaf (w : World) (v : Value) (xs : List Int) : Prop :=
  ∃ A c, v = .slice A xs.length c ∧ xs.length ≤ c ∧ c ≤ maxLen ∧
    (0 < xs.length → ∃ g cs, A = some ⟨g, 0, none⟩ ∧ w.heap[g]? = some (.cells cs 3 (0, 0)) ∧ ∀ j, j < xs.length → cs[j]? = some (.int .i64 (ix xs j)))

theorem heap_lt {w : World} {g : Nat} {o : Obj} (h : w.heap[g]? = some o) : g < w.heap.size := by
  rcases Nat.lt_or_ge g w.heap.size with hlt | hge
  · exact hlt
  · rw [Array.getElem?_eq_none hge] at h; cases h
theorem cell_cells {w : World} {g : Nat} {cs : Array Value} {t : TypeId} {fz : Nat × Nat} (h : w.heap[g]? = some (.cells cs t fz)) (j : Nat) : w.cell? ⟨g, j, none⟩ = cs[j]? := by
  simp [World.cell?, h]
theorem frozen_cells {w : World} {g : Nat} {cs : Array Value} {t : TypeId} (h : w.heap[g]? = some (.cells cs t (0, 0))) (j : Nat) : w.frozen? ⟨g, j, none⟩ = false := by
  simp [World.frozen?, h]
theorem Leaf.ints {w : World} {v : Value} {xs : List Int} (h : Leaf w v xs) : ∃ A c, v = .slice A xs.length c ∧ Ints w A c xs := by
  obtain ⟨A, c, rfl, h1, h2, h3⟩ := h
  refine ⟨A, c, rfl, h1, h2, ?_⟩
  by_cases h0 : 0 < xs.length
  · obtain ⟨g, cs, rfl, hg, hc⟩ := h3 h0
    exact ⟨g, 0, fun _ => rfl, fun j hj => by rw [Nat.zero_add, cell_cells hg, hc j hj]⟩
  · exact ⟨0, 0, fun h => absurd h h0, fun j hj => absurd hj (by omega)⟩
theorem Leaf.blocks {w : World} {v : Value} {xs : List Int} (h : Leaf w v xs) : ∀ g ∈ lb v, ∃ cs, w.heap[g]? = some (.cells cs 3 (0, 0)) := by
  obtain ⟨A, c, rfl, h1, h2, h3⟩ := h
  intro g hg
  cases e : xs.length with
  | zero => rw [e] at hg; cases A <;> simp [lb] at hg
  | succ n =>
    obtain ⟨g', cs, rfl, hb, _⟩ := h3 (by omega)
    rw [e] at hg
    simp [lb] at hg
    subst hg
    exact ⟨cs, hb⟩
theorem Leaf.lt {w : World} {v : Value} {xs : List Int} (h : Leaf w v xs) {g : Nat} (hg : g ∈ lb v) : g < w.heap.size := by
  obtain ⟨cs, hb⟩ := h.blocks g hg
  exact heap_lt hb
/-- a leaf stays where its block stays -/
theorem Leaf.keep {w w' : World} {v : Value} {xs : List Int} (h : Leaf w v xs) (hk : ∀ g ∈ lb v, w'.heap[g]? = w.heap[g]?) : Leaf w' v xs := by
  obtain ⟨A, c, rfl, h1, h2, h3⟩ := h
  refine ⟨A, c, rfl, h1, h2, fun h0 => ?_⟩
  obtain ⟨g, cs, rfl, hg, hc⟩ := h3 h0
  refine ⟨g, cs, rfl, (hk g ?_).trans hg, hc⟩
  obtain ⟨n, hn⟩ : ∃ n, xs.length = n + 1 := ⟨xs.length - 1, by omega⟩
  rw [hn]; simp [lb]
theorem Leaf.ext {w w' : World} {v : Value} {xs : List Int} (h : Leaf w v xs) (k : Ext w w') : Leaf w' v xs :=
  h.keep fun _ hg => k.block (h.lt hg)
theorem Leaf.nil (w : World) (A : Option Addr) (c : Nat) (hc : c ≤ maxLen) : Leaf w (.slice A 0 c) [] := ⟨A, c, rfl, Nat.zero_le _, hc, fun h => absurd h (by simp)⟩
theorem Leaf.of_row {w : World} {g n c : Nat} {xs : List Int} (h : w.rowIs g 3 n (fun j => .int .i64 (ix xs j))) (hn : n = xs.length) (h1 : n ≤ c) (hm : c ≤ maxLen) : Leaf w (.slice (some ⟨g, 0, none⟩) n c) xs := by
  subst hn
  obtain ⟨cs, hb, _, hc⟩ := h
  exact ⟨_, c, rfl, h1, hm, fun _ => ⟨g, cs, rfl, hb, hc⟩⟩
theorem ix_map (xs : List Int) : (xs.map (Value.int .i64)) = (List.range xs.length).map fun j => Value.int .i64 (ix xs j) := by
  refine List.ext_getElem (by simp) fun i h1 h2 => ?_
  simp at h1
  simp [ix_of h1]
theorem Leaf.of_own {w : World} {base : Nat} {v : Value} {n : Nat} {xs : List Int} (h : w.ownsRow base 3 1 v n (xs.map (Value.int .i64))) : Leaf w v xs ∧ ∀ g ∈ lb v, base ≤ g := by
  obtain ⟨h1, h2⟩ := h
  have hn : n = xs.length := by simpa using h1.symm
  subst hn
  rcases h2 with ⟨rfl, h0⟩ | ⟨g, cap, cur, rfl, hb, hg, hc, hm, hs, ht⟩
  · have : xs = [] := List.eq_nil_of_length_eq_zero h0
    subst this
    exact ⟨Leaf.nil w _ _ (Nat.zero_le _), fun g hg => by simp [lb] at hg⟩
  · refine ⟨⟨_, cap, rfl, hc, hm, fun _ => ⟨g, cur, rfl, hg, fun j hj => ?_⟩⟩, fun g' hg' => ?_⟩
    · have e : (cur.toList.take (xs.length * 1))[j]? = (xs.map (Value.int .i64))[j]? := by rw [ht]
      rw [List.getElem?_take, if_pos (by omega)] at e
      rw [← Array.getElem?_toList, e]
      simp [hj, ix_of hj]
    · cases e : xs.length with
      | zero => rw [e] at hg'; simp [lb] at hg'
      | succ n => rw [e] at hg'; simp [lb] at hg'; omega

/-- rows of one's own: each row a leaf, the slice of them in a block of another kind -/
def MatL (w : World) (A : Option Addr) (c : Nat) (D : List (List Int)) (V : Nat → Value) : Prop :=
  D.length ≤ c ∧ c ≤ maxLen ∧ ∃ b o, (0 < D.length → A = some ⟨b, o, none⟩ ∧ ∃ cs fz, w.heap[b]? = some (.cells cs 22 fz)) ∧ ∀ i, i < D.length → w.cell? ⟨b, o + i, none⟩ = some (V i) ∧ Leaf w (V i) (row D i)
/-- no two leaves lie in one block -/
def Dis (n : Nat) (V : Nat → Value) : Prop := ∀ i j, i < n → j < n → i ≠ j → ∀ g, g ∈ lb (V i) → g ∉ lb (V j)

theorem MatL.mat {w : World} {A : Option Addr} {c : Nat} {D : List (List Int)} {V : Nat → Value} (h : MatL w A c D V) : Mat w A c D := by
  obtain ⟨h1, h2, b, o, hA, hc⟩ := h
  refine ⟨h1, h2, b, o, fun h0 => (hA h0).1, fun i hi => ?_⟩
  obtain ⟨e, hl⟩ := hc i hi
  obtain ⟨Ar, cr, hv, hI⟩ := hl.ints
  exact ⟨Ar, cr, by rw [e, hv], hI⟩
theorem MatL.ext {w w' : World} {A : Option Addr} {c : Nat} {D : List (List Int)} {V : Nat → Value} (h : MatL w A c D V) (k : Ext w w') : MatL w' A c D V := by
  obtain ⟨h1, h2, b, o, hA, hc⟩ := h
  refine ⟨h1, h2, b, o, fun h0 => ?_, fun i hi => ⟨k.cell (hc i hi).1, (hc i hi).2.ext k⟩⟩
  obtain ⟨e, cs, fz, hb⟩ := hA h0
  exact ⟨e, cs, fz, (k.block (heap_lt hb)).trans hb⟩
theorem MatL.lt {w : World} {A : Option Addr} {c : Nat} {D : List (List Int)} {V : Nat → Value} (h : MatL w A c D V) {i g : Nat} (hi : i < D.length) (hg : g ∈ lb (V i)) : g < w.heap.size := by
  obtain ⟨_, _, b, o, _, hc⟩ := h
  exact (hc i hi).2.lt hg

/-- what a copy of numbers leaves -/
def FreshI (w : World) (xs : List Int) (e : Ending) (w' : World) : Prop :=
  ∃ v, e = .returned v ∧ Leaf w' v xs ∧ (∀ g ∈ lb v, w.heap.size ≤ g) ∧ Ext w w'
/-- what a copy of rows leaves -/
def FreshM (w : World) (D : List (List Int)) (e : Ending) (w' : World) : Prop :=
  ∃ A c V, e = .returned (.slice A D.length c) ∧ MatL w' A c D V ∧ Dis D.length V ∧ (∀ i, i < D.length → ∀ g ∈ lb (V i), w.heap.size ≤ g) ∧ Ext w w'

set_option maxHeartbeats 1000000 in
theorem toIntS_any (A : Option Addr) (c : Nat) (xs : List Int) (w : World) (h : Ints w A c xs) (hz : xs.length ≤ 1048576) :
    Calls Tryd.prog 29 #[.slice A xs.length c] w (FreshI w xs) := by
  obtain ⟨h1, h2, b, o, hA, hc⟩ := h
  unfold maxLen at h2
  have hmk := run_make_row' (P := Tryd.prog) 22 3 (.int .i64 0) 8 Tryd.underlying22 infoI rfl .i64 .i64 xs.length (by omega) (by omega)
  go_enter Tryd.func29, Tryd.ntmps29
  go_wp2
  clear hmk
  go_loopg [4] xs.length (fun g s4 wr => ∃ i : Nat, i + g = xs.length ∧ s4 = .int .i64 i ∧ Hid (Ext w wr ∧ wr.rowIs w.heap.size 3 xs.length (fun j => if j < i then .int .i64 (ix xs j) else .int .i64 0)))
  case atStart => exact ⟨0, by omega, rfl, Lib.hid ⟨Ext.alloc _ _, (World.rowIs_made w _ _ _).congr (fun j _ => by simp)⟩⟩
  case round =>
    obtain ⟨i, hi, rfl, HW⟩ := hrel
    by_cases hini : i < xs.length
    · obtain ⟨gi, rfl⟩ : ∃ g', gk = g' + 1 := ⟨gk - 1, by omega⟩
      have hini' : (i : Int) < (xs.length : Nat) := by omega
      obtain rfl := hA (by omega)
      have c1 := HW.out.1.cell (hc i hini)
      have c2 := HW.out.2.cell hini
      have c3 := HW.out.2.frozen i
      rw [if_neg (by omega)] at c2
      clear hc
      go_wp2
      go_roundg gi
      case measure => omega
      case rel =>
        refine ⟨i + 1, by omega, by go_num, Lib.hid ⟨HW.out.1.setCell' (Nat.le_refl _) _, (HW.out.2.set i _).congr (fun j _ => ?_)⟩⟩
        by_cases e : j = i
        · subst e; simp
        · rw [if_neg e]
          by_cases hlt : j < i
          · rw [if_pos hlt, if_pos (by omega)]
          · rw [if_neg hlt, if_neg (by omega)]
    · have hini' : ¬ (i : Int) < (xs.length : Nat) := by omega
      clear hc
      go_wp2
      go_ret
      refine ⟨_, rfl, Leaf.of_row (HW.out.2.congr (fun j hj => by rw [if_pos (by omega)])) rfl (Nat.le_refl _) (by unfold maxLen; omega), fun g hg => ?_, HW.out.1⟩
      cases e : xs.length with
      | zero => rw [e] at hg; simp [lb] at hg
      | succ n => rw [e] at hg; simp [lb] at hg; omega

end Go.Proofs.YtjpgjmhdjepfgaaDoor
