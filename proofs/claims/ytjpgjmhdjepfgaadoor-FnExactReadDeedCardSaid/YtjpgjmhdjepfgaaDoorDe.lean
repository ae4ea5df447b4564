/- What is proved: copies, sizes, marks of deeds (toDeed, szDeed, eqDeed, markDeed). Conditions: those of each contract. -/
import Derived.Test.YtjpgjmhdjepfgaaDoorGen
namespace Go.Proofs.YtjpgjmhdjepfgaaDoor
open Go.RowKit
/-- what a copy of a deed leaves -/
def FreshDe (w : World) (k : Int) (xs : List Int) (e : Ending) (w' : World) : Prop :=
  ∃ v, e = .returned (.agg #[.int .i64 k, v]) ∧ Leaf w' v xs ∧ (∀ g ∈ lb v, w.heap.size ≤ g) ∧ Ext w w'
set_option maxHeartbeats 2000000 in
theorem szDeed_any (kd : Int) (A : Option Addr) (n c : Nat) (l : Int) (w : World) (hl0 : 0 ≤ l) (hl1 : l ≤ 1048576) (h : n ≤ maxLen) :
    Calls Tryd.prog 7 #[.agg #[.int .i64 kd, .slice A n c], .int .i64 l] w fun e w' => e = .returned (.int .i64 (szI n l)) ∧ Ext w w' := by
  have HC := Lib.hid (fun W => szIntS_any A n c l W hl0 hl1 h)
  have hd : szI n l = if l - n < 0 then -1 else l - n := rfl
  by_cases hq : l - (n : Int) < 0
  · rw [if_pos hq] at hd
    rw [hd] at HC
    rw [hd]
    clear hd
    go_enter Tryd.func7, Tryd.ntmps7
    go_wp2_with fail
    refine (HC.out _).mono ?_
    rintro e w1 ⟨rfl, m1, rfl⟩
    go_wp2
    go_ret
    exact ⟨rfl, by repeat (first | exact Ext.refl _ | apply Ext.drewN' | apply Ext.alloc')⟩
  · rw [if_neg hq] at hd
    rw [hd] at HC
    rw [hd]
    clear hd
    go_enter Tryd.func7, Tryd.ntmps7
    go_wp2_with fail
    refine (HC.out _).mono ?_
    rintro e w1 ⟨rfl, m1, rfl⟩
    go_wp2
    go_ret
    exact ⟨rfl, by repeat (first | exact Ext.refl _ | apply Ext.drewN' | apply Ext.alloc')⟩
set_option maxHeartbeats 2000000 in
theorem eqDeed_any (kd : Int) (A B : Option Addr) (c d : Nat) (xs : List Int) (w : World) (h1 : Ints w A c xs) (h2 : Ints w B d xs) :
    Calls Tryd.prog 11 #[.agg #[.int .i64 kd, .slice A xs.length c], .agg #[.int .i64 kd, .slice B xs.length d]] w fun e w' => e = .returned (.bool true) ∧ Ext w w' := by
  have HC := Lib.hid (fun W (q : Ext w W) => eqIntS_any A B c d xs xs W (h1.ext q) (h2.ext q))
  clear h1 h2
  go_enter Tryd.func11, Tryd.ntmps11
  go_wp2_with fail
  refine (HC.out _ (by repeat (first | exact Ext.refl _ | apply Ext.drewN' | apply Ext.alloc'))).mono ?_
  rintro e w1 ⟨rfl, m1, rfl⟩
  rw [show eqI xs xs = true from decide_eq_true rfl]
  go_wp2
  go_ret
  exact ⟨rfl, by repeat (first | exact Ext.refl _ | apply Ext.drewN' | apply Ext.alloc')⟩
set_option maxHeartbeats 2000000 in
theorem markDeed_any (kd : Int) (A : Option Addr) (c : Nat) (xs : List Int) (k : Int) (w : World) (h : Leaf w (.slice A xs.length c) xs) (hk0 : 0 ≤ k) (hk1 : k ≤ 1000000000000) (hn : xs.length ≤ 10000000) :
    Calls Tryd.prog 19 #[.agg #[.int .i64 kd, .slice A xs.length c], .int .i64 k] w fun e w' => e = .returned (.int .i64 (k + xs.length)) ∧ Leaf w' (.slice A xs.length c) (mk k xs.length) ∧ ExtS (fun g => g ∈ lb (.slice A xs.length c)) w w' := by
  have HC := Lib.hid (fun W (q : Ext w W) => markIntS_any A c xs k W (h.ext q) hk0 hk1 hn)
  clear h
  go_enter Tryd.func19, Tryd.ntmps19
  go_wp2_with fail
  refine (HC.out _ (Ext.alloc _ _)).mono ?_
  rintro e w1 ⟨rfl, hl, ho⟩
  have HL := Lib.hid (And.intro hl ho)
  clear hl ho
  go_wp2
  go_ret
  exact ⟨rfl, HL.out.1, (ExtS.of (Ext.alloc _ _)).trans (ExtS.only HL.out.2)⟩
set_option maxHeartbeats 2000000 in
theorem toDeed_any (kd : Int) (A : Option Addr) (c : Nat) (xs : List Int) (w : World) (h : Ints w A c xs) (hz : xs.length ≤ 1048576) :
    Calls Tryd.prog 9 #[.agg #[.int .i64 kd, .slice A xs.length c]] w (FreshDe w kd xs) := by
  have HC := Lib.hid (fun W (q : Ext w W) => toIntS_any A c xs W (h.ext q) hz)
  clear h
  go_enter Tryd.func9, Tryd.ntmps9
  go_wp2_with fail
  refine (HC.out _ (by repeat (first | exact Ext.refl _ | apply Ext.drewN' | apply Ext.alloc'))).mono ?_
  rintro e w1 ⟨v, rfl, hL, hl, hx⟩
  obtain ⟨Av, cv, rfl, -⟩ := hL.ints
  obtain ⟨b0, b1, b2, hx0, hs0⟩ := three_more hx
  obtain ⟨c0, c1⟩ := two_cells b2
  have cf := frozen_cells b2 1
  have s2 := set_1 (u := .slice Av xs.length cv) b2
  have b1' : (w1.setCell ⟨w.heap.size + 1 + 1, 1, none⟩ (.slice Av xs.length cv)).heap[w.heap.size + 1]? = _ := set_far b1 (by show w.heap.size + 1 ≠ w.heap.size + 1 + 1; omega)
  obtain ⟨d0, d1⟩ := two_cells s2
  obtain ⟨e0, e1⟩ := two_cells b1'
  have e2 := frozen_cells b1' 0
  have s3 := set_0 (u := .int .i64 kd) b1'
  have e3 := (two_cells s3).2
  have e4 := frozen_cells s3 1
  have s4 := set_1 (u := .slice Av xs.length cv) s3
  obtain ⟨f0, f1⟩ := two_cells s4
  have hk : ∀ q, q < w1.heap.size → q ≠ w.heap.size + 1 → q ≠ w.heap.size + 1 + 1 → (((w1.setCell ⟨w.heap.size + 1 + 1, 1, none⟩ (.slice Av xs.length cv)).setCell ⟨w.heap.size + 1, 0, none⟩ (.int .i64 kd)).setCell ⟨w.heap.size + 1, 1, none⟩ (.slice Av xs.length cv)).heap[q]? = w1.heap[q]? := fun q _ q1 q2 =>
    ((Below.heap_setCell _ _ _ _ (by show q ≠ w.heap.size + 1; exact q1)).trans (Below.heap_setCell _ _ _ _ (by show q ≠ w.heap.size + 1; exact q1))).trans (Below.heap_setCell _ _ _ _ (by show q ≠ w.heap.size + 1 + 1; exact q2))
  have hbn : ∀ g ∈ lb (.slice Av xs.length cv), w.heap.size + 3 ≤ g := fun g hg => by have := hl g hg; simp at this; omega
  have HF := Lib.hid (show Leaf (((w1.setCell ⟨w.heap.size + 1 + 1, 1, none⟩ (.slice Av xs.length cv)).setCell ⟨w.heap.size + 1, 0, none⟩ (.int .i64 kd)).setCell ⟨w.heap.size + 1, 1, none⟩ (.slice Av xs.length cv)) (.slice Av xs.length cv) xs from hL.keep fun g hg => hk g (hL.lt hg) (by have := hbn g hg; omega) (by have := hbn g hg; omega))
  have HX := Lib.hid (show Ext w (((w1.setCell ⟨w.heap.size + 1 + 1, 1, none⟩ (.slice Av xs.length cv)).setCell ⟨w.heap.size + 1, 0, none⟩ (.int .i64 kd)).setCell ⟨w.heap.size + 1, 1, none⟩ (.slice Av xs.length cv)) from ((hx0.setCell' (p := ⟨w.heap.size + 1 + 1, 1, none⟩) (by show w.heap.size ≤ w.heap.size + 1 + 1; omega) _).setCell' (p := ⟨w.heap.size + 1, 0, none⟩) (by show w.heap.size ≤ w.heap.size + 1; omega) _).setCell' (p := ⟨w.heap.size + 1, 1, none⟩) (by show w.heap.size ≤ w.heap.size + 1; omega) _)
  clear b0 b1 b2 hx hx0 hs0 hk s2 b1' s3 s4 HC
  go_wp2
  refine bodyPost_ret (v := .agg #[.int .i64 kd, .slice Av xs.length cv]) (by simp [results, Tryd.results9, go_sem, f0, f1]) rfl ?_
  exact ⟨_, rfl, HF.out, fun g hg => by have := hbn g hg; omega, HX.out⟩
end Go.Proofs.YtjpgjmhdjepfgaaDoor
