/- What is proved: lists of texts that the laws measure, copy, compare, mark and read again (szStringS, toStringS, eqStringS, sameTexts, markStringS, heldStringS). Conditions: sizes. -/
import Derived.Test.YtnalcgcdohlfiaaGreatDoorSay
import Derived.Test.YtnalcgcdohlfiaaGreatDoorExd
import Derived.SliceStrings
namespace Go.Proofs.YtnalcgcdohlfiaaGreatDoor
open Go.RowKit
/-- texts that come in: of any length that a world may have -/
def TxW (w : World) (A : Option Addr) (c : Nat) (ps : List (List UInt8)) : Prop :=
  ps.length ≤ c ∧ c ≤ maxLen ∧ ∃ b o, (0 < ps.length → A = some ⟨b, o, none⟩) ∧ ∀ i, i < ps.length → w.cell? ⟨b, o + i, none⟩ = some (tx (ps.getD i [])) ∧ (ps.getD i []).length ≤ maxLen
theorem TxW.ext {w w' : World} {A : Option Addr} {c : Nat} {ps : List (List UInt8)} (h : TxW w A c ps) (k : Ext w w') : TxW w' A c ps := by
  obtain ⟨h1, h2, b, o, h3, h4⟩ := h
  exact ⟨h1, h2, b, o, h3, fun i hi => ⟨k.cell (h4 i hi).1, (h4 i hi).2⟩⟩
/-- the size of texts -/
def szTR : List (List UInt8) → Int → Int
  | [], l => l
  | t :: r, l => if l - t.length < 0 then -1 else szTR r (l - t.length)
def szT (ts : List (List UInt8)) (l : Int) : Int := if l - ts.length < 0 then -1 else szTR ts (l - ts.length)
theorem szTR_spec : ∀ (ts : List (List UInt8)) (l : Int), 0 ≤ szTR ts l → szTR ts l ≤ l ∧ ∀ t ∈ ts, (t.length : Int) ≤ l
  | [], l, h => ⟨Int.le_refl _, fun t ht => by cases ht⟩
  | t :: r, l, h => by
    unfold szTR at h ⊢
    split at h
    · omega
    · rename_i hz
      rw [if_neg hz]
      obtain ⟨h1, h2⟩ := szTR_spec r _ h
      refine ⟨by omega, fun x hx => ?_⟩
      rcases List.mem_cons.1 hx with rfl | q
      · omega
      · have := h2 x q; omega
theorem getD_mem {ts : List (List UInt8)} {i : Nat} (h : i < ts.length) : ts.getD i [] ∈ ts := by
  rw [List.getD_eq_getElem?_getD, List.getElem?_eq_getElem h]
  exact List.getElem_mem h
theorem szT_spec {ts : List (List UInt8)} {l : Int} (hl : l ≤ 1048576) (h : ¬ szT ts l < 0) : ts.length ≤ 1048576 ∧ ∀ i, i < ts.length → (ts.getD i []).length ≤ 1048576 := by
  unfold szT at h
  split at h
  · omega
  · obtain ⟨h1, h2⟩ := szTR_spec ts (l - ts.length) (by omega)
    exact ⟨by omega, fun i hi => by have := h2 _ (getD_mem hi); omega⟩
theorem drop_next {ts : List (List UInt8)} {i : Nat} (h : i < ts.length) : ts.drop i = ts.getD i [] :: ts.drop (i + 1) := by
  rw [List.drop_eq_getElem_cons h, List.getD_eq_getElem?_getD, List.getElem?_eq_getElem h]
  rfl
/-- a row of texts of one's own: from the head of a block on -/
def LeafT (w : World) (v : Value) (ts : List (List UInt8)) : Prop :=
  ∃ A c, v = .slice A ts.length c ∧ ts.length ≤ c ∧ c ≤ maxLen ∧
    (0 < ts.length → ∃ g cs, A = some ⟨g, 0, none⟩ ∧ w.heap[g]? = some (.cells cs 9 (0, 0)) ∧ ∀ j, j < ts.length → cs[j]? = some (tx (ts.getD j [])))
theorem LeafT.blocks {w : World} {v : Value} {ts : List (List UInt8)} (h : LeafT w v ts) : ∀ g ∈ lb v, ∃ cs, w.heap[g]? = some (.cells cs 9 (0, 0)) := by
  obtain ⟨A, c, rfl, h1, h2, h3⟩ := h
  intro g hg
  cases e : ts.length with
  | zero => rw [e] at hg; cases A <;> simp [lb] at hg
  | succ n =>
    obtain ⟨g', cs, rfl, hb, _⟩ := h3 (by omega)
    rw [e] at hg
    simp [lb] at hg
    subst hg
    exact ⟨cs, hb⟩
theorem LeafT.lt {w : World} {v : Value} {ts : List (List UInt8)} (h : LeafT w v ts) {g : Nat} (hg : g ∈ lb v) : g < w.heap.size := by
  obtain ⟨cs, hb⟩ := h.blocks g hg
  exact heap_lt hb
theorem LeafT.keep {w w' : World} {v : Value} {ts : List (List UInt8)} (h : LeafT w v ts) (hk : ∀ g ∈ lb v, w'.heap[g]? = w.heap[g]?) : LeafT w' v ts := by
  obtain ⟨A, c, rfl, h1, h2, h3⟩ := h
  refine ⟨A, c, rfl, h1, h2, fun h0 => ?_⟩
  obtain ⟨g, cs, rfl, hg, hc⟩ := h3 h0
  refine ⟨g, cs, rfl, (hk g ?_).trans hg, hc⟩
  obtain ⟨n, hn⟩ : ∃ n, ts.length = n + 1 := ⟨ts.length - 1, by omega⟩
  rw [hn]; simp [lb]
theorem LeafT.ext {w w' : World} {v : Value} {ts : List (List UInt8)} (h : LeafT w v ts) (k : Ext w w') : LeafT w' v ts :=
  h.keep fun _ hg => k.block (h.lt hg)
theorem LeafT.extS {S : Nat → Prop} {w w' : World} {v : Value} {ts : List (List UInt8)} (h : LeafT w v ts) (k : ExtS S w w') (hs : ∀ g ∈ lb v, ¬ S g) : LeafT w' v ts := h.keep fun g hg => k.2.2.2.2 g (h.lt hg) (hs g hg)
/-- marks of numbers leave texts -/
theorem LeafT.extI {S : Nat → Prop} {w w' : World} {v : Value} {ts : List (List UInt8)} (h : LeafT w v ts) (k : ExtS S w w') (hI : ∀ g, S g → ∃ cs, w.heap[g]? = some (.cells cs 3 (0, 0))) : LeafT w' v ts :=
  h.extS k fun g hg hS => by
    obtain ⟨cs, hb⟩ := h.blocks g hg
    obtain ⟨cs', hb'⟩ := hI g hS
    rw [hb] at hb'
    injection hb' with hb'
    injection hb' with _ ht
    exact absurd ht (by decide)
/-- marks of texts leave numbers, rows and slices of rows -/
theorem KeepT.extS {S : Nat → Prop} {w w' : World} (k : ExtS S w w') (hI : ∀ g, S g → ∃ cs, w.heap[g]? = some (.cells cs 9 (0, 0))) : KeepT w w' := fun g cs t fz hg ht =>
  k.2.2.2.2 g (heap_lt hg) fun hS => by
    obtain ⟨cs', hb'⟩ := hI g hS
    rw [hg] at hb'
    injection hb' with hb'
    injection hb' with _ e
    subst e
    exact absurd ht (by decide)
theorem ExtS.blockT {S : Nat → Prop} {w w' : World} {m : Nat} {cs : Array Value} {T : TypeId} {fz : Nat × Nat} (k : ExtS S w w') (h : w.heap[m]? = some (.cells cs T fz)) (hI : ∀ g, S g → ∃ cs, w.heap[g]? = some (.cells cs 9 (0, 0))) (hT : T ≠ 9) : w'.heap[m]? = some (.cells cs T fz) := by
  refine (k.2.2.2.2 m (heap_lt h) fun hS => ?_).trans h
  obtain ⟨cs', hb'⟩ := hI m hS
  rw [h] at hb'
  injection hb' with hb'
  injection hb' with _ e
  exact hT e
theorem LeafT.txts {w : World} {v : Value} {ts : List (List UInt8)} (h : LeafT w v ts) : ∃ A c, v = .slice A ts.length c ∧ Txts w A c ts := by
  obtain ⟨A, c, rfl, h1, h2, h3⟩ := h
  refine ⟨A, c, rfl, h1, h2, ?_⟩
  by_cases h0 : 0 < ts.length
  · obtain ⟨g, cs, rfl, hg, hc⟩ := h3 h0
    exact ⟨g, 0, fun _ => ⟨rfl, cs, hg⟩, fun j hj => by rw [Nat.zero_add, cell_cells hg, hc j hj]⟩
  · exact ⟨0, 0, fun h => absurd h h0, fun j hj => absurd hj (by omega)⟩
theorem Txts.own {w : World} {A : Option Addr} {c : Nat} {ts : List (List UInt8)} (h : LeafT w (.slice A ts.length c) ts) : Txts w A c ts := by
  obtain ⟨A', c', e, hI⟩ := h.txts
  injection e with e1 e2 e3
  subst e1; subst e3
  exact hI
/-- what has been collected -/
theorem LeafT.of_own {W : World} {b : Nat} {v : Value} {ts : List (List UInt8)} (h : W.ownsRow b 9 1 v ts.length (ts.map tx)) : LeafT W v ts ∧ ∀ g ∈ lb v, b ≤ g := by
  rcases h.2 with ⟨rfl, h0⟩ | ⟨g, cap, cur, rfl, hb, hg, hcap, hm, hs, ht⟩
  · exact ⟨⟨none, 0, by rw [h0], by omega, Nat.zero_le _, fun q => absurd q (by omega)⟩, fun g hg => by simp [lb] at hg⟩
  · refine ⟨⟨_, cap, rfl, hcap, hm, fun _ => ⟨g, cur, rfl, hg, fun j hj => ?_⟩⟩, fun q hq => ?_⟩
    · have e : (cur.toList.take (ts.length * 1))[j]? = (ts.map tx)[j]? := by rw [ht]
      rw [List.getElem?_take, if_pos (by omega)] at e
      rw [← Array.getElem?_toList, e]
      simp [hj]
    · cases e : ts.length with
      | zero => rw [e] at hq; simp [lb] at hq
      | succ n => rw [e] at hq; simp [lb] at hq; omega
set_option maxHeartbeats 2000000 in
theorem sameTexts_any (A B : Option Addr) (c d : Nat) (ts : List (List UInt8)) (w : World) (hx : Txts w A c ts) (hy : Txts w B d ts) :
    Calls Tryz.prog 8 #[.slice A ts.length c, .slice B ts.length d] w fun e w' => e = .returned (.bool true) ∧ ∃ m, w' = w.drewN m := by
  obtain ⟨h1, h2, b, o, hA, hc⟩ := hx
  obtain ⟨k1, k2, b', o', hB, hd⟩ := hy
  unfold maxLen at h2 k2
  go_enter Tryz.func8, Tryz.ntmps8
  go_wp2
  go_loopg [5] (ts.length) (fun g s5 wr => ∃ (i m : Nat), i + g = ts.length ∧ s5 = .int .i64 i ∧ wr = w.drewN m ∧ Hid (True))
  case atStart => exact ⟨0, _, by omega, rfl, by first | rfl | exact drewN_0 _ | exact drewN_add _ _ _, Lib.hid (trivial)⟩
  case round =>
    obtain ⟨i, mi, hi, rfl, rfl, Hi⟩ := hrel
    by_cases hini : i < ts.length
    · obtain ⟨gi, rfl⟩ : ∃ g', gk = g' + 1 := ⟨gk - 1, by omega⟩
      have hini' : (i : Int) < (ts.length : Nat) := by omega
      obtain ⟨rfl, -⟩ := hA (by omega)
      obtain ⟨rfl, -⟩ := hB (by omega)
      have c1 := hc i hini
      have c2 := hd i hini
      obtain ⟨T, hT⟩ : ∃ T, ts.getD i [] = T := ⟨_, rfl⟩
      rw [hT] at c1 c2
      unfold tx at c1 c2
      have e2 : (T != T) = false := bne_self_eq_false _
      clear hc hd hT
      go_wp2
      go_quiet (fail)
      go_wp2
      go_roundg gi
      case measure => omega
      case rel => exact ⟨i + 1, _, by omega, by go_num, by first | rfl | exact drewN_0 _ | exact drewN_add _ _ _, Lib.hid (by trivial)⟩
    · have hini' : ¬ (i : Int) < (ts.length : Nat) := by omega
      obtain rfl : gk = 0 := by omega
      clear hc hd hA hB
      go_wp2
      go_ret
      exact ⟨rfl, _, rfl⟩
end Go.Proofs.YtnalcgcdohlfiaaGreatDoor
