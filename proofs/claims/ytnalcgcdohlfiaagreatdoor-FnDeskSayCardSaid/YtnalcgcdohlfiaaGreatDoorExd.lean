/- What is proved: words and plain facts for the exact laws of desks: marks leave the rest, small desks have few numbers. Conditions: those of each theorem. -/
import Derived.Test.YtnalcgcdohlfiaaGreatDoorSl4
import Derived.Test.YtnalcgcdohlfiaaGreatDoorDoP
import Derived.Test.YtnalcgcdohlfiaaGreatDoorRdDeed
import Derived.Test.YtnalcgcdohlfiaaGreatDoorDkl
namespace Go.Proofs.YtnalcgcdohlfiaaGreatDoor
open Go.RowKit
theorem ExtS.block {S : Nat → Prop} {w w' : World} {m : Nat} {cs : Array Value} {T : TypeId} {fz : Nat × Nat} (k : ExtS S w w') (h : w.heap[m]? = some (.cells cs T fz)) (hI : ∀ g, S g → ∃ cs, w.heap[g]? = some (.cells cs 3 (0, 0))) (hT : T ≠ 3) : w'.heap[m]? = some (.cells cs T fz) := by
  refine (k.2.2.2.2 m (heap_lt h) fun hS => ?_).trans h
  obtain ⟨cs', hb⟩ := hI m hS
  rw [h] at hb
  injection hb with hb
  injection hb with _ ht
  exact hT ht
theorem DkV.isI {w : World} {v : Value} {D : List (List Int)} {L : List (List (List Int))} {Z : Nat → Value} {V : Nat → Nat → Value} (h : DkV w v D L Z V) {g : Nat} (hg : LD D L Z V g) : ∃ cs, w.heap[g]? = some (.cells cs 3 (0, 0)) := by
  obtain ⟨A, c, B, d, e, h1, -, h2, -⟩ := h
  rcases hg with q | q
  · exact h1.isI q
  · exact h2.isI q
/-- what a call hands back, stored in a new block -/
theorem from_stored {w wb w8 wf : World} {m6 : Nat} {a b : Value} {P : World → Prop} (hx : Ext w wb) (hX : Ext wb w8) (hF : From wb.heap.size w8 P)
    (hm : ∃ wz, Ext w8 wz ∧ wz.heap[m6]? = some (.cells #[.slice none 0 0, .slice none 0 0] 26 (0, 0)) ∧ wf = (wz.setCell ⟨m6, 0, none⟩ a).setCell ⟨m6, 1, none⟩ b) (hm6 : (w.heap.size ≤ m6 ∧ m6 < wb.heap.size) ∨ w8.heap.size ≤ m6) :
    Ext w wf ∧ wf.heap[m6]? = some (.cells #[a, b] 26 (0, 0)) ∧ From w.heap.size wf P := by
  obtain ⟨wz, hz1, hz2, rfl⟩ := hm
  have s1 := hx.size
  have s2 := hX.size
  have s3 := hz1.size
  have h6 : w.heap.size ≤ m6 := by omega
  refine ⟨(((hx.trans hX).trans hz1).setCell' (p := ⟨m6, 0, none⟩) h6 _).setCell' (p := ⟨m6, 1, none⟩) h6 _, set_1 (set_0 hz2), fun W hW => hF W fun k k1 k2 => ?_⟩
  have hne : k ≠ m6 := by omega
  exact (hW k (by omega) (by simp [World.setCell]; omega)).trans (((Below.heap_setCell _ _ _ _ (by show k ≠ m6; exact hne)).trans (Below.heap_setCell _ _ _ _ (by show k ≠ m6; exact hne))).trans (hz1.block k2))
theorem From.extS {S : Nat → Prop} {b : Nat} {w w' : World} {P : World → Prop} (h : From b w P) (k : ExtS S w w') (hs : ∀ g, S g → w.heap.size ≤ g ∨ g < b) : From b w' P :=
  h.hi (fun q q1 q2 => k.2.2.2.2 q q2 fun e => by rcases hs q e with z | z <;> omega) k.2.2.2.1
theorem OwnDk.extS {S : Nat → Prop} {b : Nat} {w w' : World} {v : Value} {D : List (List Int)} {L : List (List (List Int))} (h : OwnDk b w v D L) (k : ExtS S w w') (hs : ∀ g, S g → g < b) : OwnDk b w' v D L :=
  h.keep fun g _ _ hg hh _ => k.2.2.2.2 g (heap_lt hh) fun e => by have := hs g e; omega
/-- small desks have few numbers -/
theorem total_small {D : List (List Int)} (h1 : D.length ≤ 6) (h2 : ∀ i, i < D.length → (row D i).length ≤ 6) : total D ≤ 36 := by
  have : ∀ i, i ≤ D.length → pre D i ≤ 6 * i := by
    intro i
    induction i with
    | zero => intro _; rw [pre_0]; omega
    | succ i ih =>
      intro h
      have := ih (by omega)
      have := h2 i (by omega)
      rw [pre_succ (by omega)]
      omega
  have := this D.length (Nat.le_refl _)
  rw [pre_all] at this
  omega
def Few (D : List (List Int)) (L : List (List (List Int))) : Prop := D.length ≤ 10000000 ∧ total D ≤ 10000000 ∧ preS L L.length ≤ 10000000 ∧ ∀ i, i < L.length → (nth L i).length ≤ 10000000
theorem few_desk {D : List (List Int)} {L : List (List (List Int))} (h : deskB D L = true) : Few D L := by
  obtain ⟨h1, h2, h3⟩ := deskB_parts h
  have key : ∀ E, spB E = true → E.length ≤ 6 ∧ total E ≤ 36 := fun E hE => by
    obtain ⟨⟨g1, g2⟩, g3, -⟩ := farB_parts (spB_far hE)
    exact ⟨g2, total_small g2 fun i hi => by rw [g3 i hi]; exact g2⟩
  have hp : ∀ i, i ≤ L.length → preS L i ≤ 36 * i := by
    intro i
    induction i with
    | zero => intro _; simp [preS]
    | succ i ih =>
      intro hi
      have := ih (by omega)
      have := (key _ (h3 i (by omega))).2
      show preS L i + total (nth L i) ≤ _
      omega
  have := hp L.length (Nat.le_refl _)
  have := key D h1
  exact ⟨by omega, by omega, by omega, fun i hi => by have := (key _ (h3 i hi)).1; omega⟩
theorem few_none : Few [] [] := ⟨by simp, by simp [total], by simp [preS], fun i hi => absurd hi (by simp)⟩
theorem few_v {D : List (List Int)} {L : List (List (List Int))} {kind : Int} {xs : List Int} : Few (vD D L kind xs) (vL D L kind xs) := by
  unfold vD vL
  by_cases h : deskB D L = true
  · rw [if_pos h, if_pos h]; exact few_desk (do_desk h)
  · rw [if_neg h, if_neg h]; exact few_none
theorem few_sz {D : List (List Int)} {L : List (List (List Int))} (h : ¬ szDk D L 1048576 < 0) : ((D.length + total D ≤ 1048576) ∧ L.length ≤ 1048576 ∧ (∀ j, j < L.length → (nth L j).length + total (nth L j) ≤ 1048576)) ∧ Few D L ∧ szDk D L 1048576 ≤ 1048576 := by
  unfold szDk at h ⊢
  by_cases q : szM D 1048576 < 0
  · rw [if_pos q] at h; omega
  · obtain ⟨q1, q2⟩ := szM_le q
    rw [if_neg q] at h ⊢
    by_cases r : szS L (szM D 1048576) < 0
    · rw [if_pos r] at h; omega
    · obtain ⟨r1, r2⟩ := szS_spec (L := L) (l := szM D 1048576) (by omega) r
      rw [if_neg r]
      have ht : ((preS L L.length : Nat) : Int) ≤ 1048576 ∧ szS L (szM D 1048576) ≤ 1048576 := by
        unfold szS at r ⊢
        split at r
        · omega
        · rename_i hz
          rw [if_neg hz]
          have := szSR_tot L L.length 0 (szM D 1048576 - L.length) (by omega)
          rw [Nat.zero_add] at this
          have e0 : preS L 0 = 0 := rfl
          refine ⟨by omega, ?_⟩
          have hle : ∀ g i l, l ≤ 1048576 → szSR L g i l ≤ 1048576 := by
            intro g
            induction g with
            | zero => intro i l h; exact h
            | succ g ih =>
              intro i l h
              unfold szSR
              split
              · omega
              · rename_i hq
                exact ih _ _ (by have := (szM_le hq).1; omega)
          exact hle _ _ _ (by omega)
      refine ⟨⟨by omega, r1, r2⟩, ⟨by omega, by omega, by omega, fun i hi => by have := r2 i hi; omega⟩, ht.2⟩
/-- a desk of one's own stored in a new block -/
theorem own_put {w8 wc w10 wf : World} {m10 : Nat} {A B : Option Addr} {c d : Nat} {D : List (List Int)} {L : List (List (List Int))} (hx : Ext w8 wc) (hX : Ext wc w10) (hO : OwnDk wc.heap.size w10 (.agg #[.slice A D.length c, .slice B L.length d]) D L)
    (hm : ∃ wz, Ext w10 wz ∧ wz.heap[m10]? = some (.cells #[.slice none 0 0, .slice none 0 0] 26 (0, 0)) ∧ wf = (wz.setCell ⟨m10, 0, none⟩ (.slice A D.length c)).setCell ⟨m10, 1, none⟩ (.slice B L.length d)) (hm10 : w8.heap.size ≤ m10) :
    Ext w8 wf ∧ wf.heap[m10]? = some (.cells #[.slice A D.length c, .slice B L.length d] 26 (0, 0)) ∧ Mat wf A c D ∧ MatS wf B d L := by
  obtain ⟨wz, hz1, hz2, rfl⟩ := hm
  obtain ⟨Aq, cq, Bq, dq, eq, m1q, m2q, -, -⟩ := ((hO.keep (KeepB.of_ext hz1)).keep (keepB_set2 hz2 (.slice A D.length c) (.slice B L.length d)).2.2.2.2.2.2).split
  simp only [Value.agg.injEq, Array.mk.injEq, List.cons.injEq, Value.slice.injEq] at eq
  obtain ⟨⟨rfl, -, rfl⟩, ⟨rfl, -, rfl⟩, -⟩ := eq
  exact ⟨(((hx.trans hX).trans hz1).setCell' (p := ⟨m10, 0, none⟩) hm10 _).setCell' (p := ⟨m10, 1, none⟩) hm10 _, set_1 (set_0 hz2), m1q, m2q⟩
/-- three blocks: a desk, a deed, a desk -/
def Bk3 (m8 m9 m10 : Nat) (a8 b8 a9 b9 a10 b10 : Value) (W : World) : Prop :=
  W.heap[m8]? = some (.cells #[a8, b8] 26 (0, 0)) ∧ W.heap[m9]? = some (.cells #[a9, b9] 54 (0, 0)) ∧ W.heap[m10]? = some (.cells #[a10, b10] 26 (0, 0))
theorem Bk3.ext {m8 m9 m10 : Nat} {a8 b8 a9 b9 a10 b10 : Value} {W W' : World} (h : Bk3 m8 m9 m10 a8 b8 a9 b9 a10 b10 W) (k : Ext W W') : Bk3 m8 m9 m10 a8 b8 a9 b9 a10 b10 W' :=
  ⟨(k.block (heap_lt h.1)).trans h.1, (k.block (heap_lt h.2.1)).trans h.2.1, (k.block (heap_lt h.2.2)).trans h.2.2⟩
theorem Bk3.extS {S : Nat → Prop} {m8 m9 m10 : Nat} {a8 b8 a9 b9 a10 b10 : Value} {W W' : World} (h : Bk3 m8 m9 m10 a8 b8 a9 b9 a10 b10 W) (k : ExtS S W W') (hI : ∀ g, S g → ∃ cs, W.heap[g]? = some (.cells cs 3 (0, 0))) : Bk3 m8 m9 m10 a8 b8 a9 b9 a10 b10 W' :=
  ⟨k.block h.1 hI (by decide), k.block h.2.1 hI (by decide), k.block h.2.2 hI (by decide)⟩
theorem DkV.same {w : World} {A B : Option Addr} {n c m d : Nat} {D : List (List Int)} {L : List (List (List Int))} {Z : Nat → Value} {V : Nat → Nat → Value} (h : DkV w (.agg #[.slice A n c, .slice B m d]) D L Z V) : Mat w A c D ∧ MatS w B d L := by
  obtain ⟨Aq, cq, Bq, dq, eq, m1q, m2q⟩ := h.desk
  simp only [Value.agg.injEq, Array.mk.injEq, List.cons.injEq, Value.slice.injEq] at eq
  obtain ⟨⟨rfl, -, rfl⟩, ⟨rfl, -, rfl⟩, -⟩ := eq
  exact ⟨m1q, m2q⟩
theorem OwnDk.same {b : Nat} {w : World} {A B : Option Addr} {n c m d : Nat} {D : List (List Int)} {L : List (List (List Int))} (h : OwnDk b w (.agg #[.slice A n c, .slice B m d]) D L) : Mat w A c D ∧ MatS w B d L := by
  obtain ⟨Aq, cq, Bq, dq, eq, m1q, m2q, -, -⟩ := h.split
  simp only [Value.agg.injEq, Array.mk.injEq, List.cons.injEq, Value.slice.injEq] at eq
  obtain ⟨⟨rfl, -, rfl⟩, ⟨rfl, -, rfl⟩, -⟩ := eq
  exact ⟨m1q, m2q⟩
theorem Leaf.extS {S : Nat → Prop} {w w' : World} {v : Value} {xs : List Int} (h : Leaf w v xs) (k : ExtS S w w') (hs : ∀ g ∈ lb v, ¬ S g) : Leaf w' v xs := h.keep fun g hg => k.2.2.2.2 g (h.lt hg) (hs g hg)
end Go.Proofs.YtnalcgcdohlfiaaGreatDoor
