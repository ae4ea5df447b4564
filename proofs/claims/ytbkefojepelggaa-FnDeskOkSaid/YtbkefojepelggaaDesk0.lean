/- What is proved: DeskNew of both; equality, marks and their reading for a desk without a past. Conditions: those of each contract. -/
import Derived.Test.YtbkefojepelggaaAppM
namespace Go.Proofs.Ytbkefojepelggaa
open Go.RowKit

/-- a desk of rows and without a past, in new memory -/
def FreshD (w : World) (D : List (List Int)) (e : Ending) (w' : World) : Prop :=
  ∃ A c V, e = .returned (.agg #[.slice A D.length c, .slice none 0 0]) ∧ MatL w' A c D V ∧ Dis D.length V ∧ (∀ i, i < D.length → ∀ g ∈ lb (V i), w.heap.size ≤ g) ∧ Ext w w'
theorem new_one (w W : World) (hw : W.heap.size = w.heap.size + 1) (hx : Ext w W) :
    let W' := (W.alloc (.cells #[.int .i64 0] 3)).alloc (.cells #[.slice (some ⟨w.heap.size + 1, 0, none⟩) 1 1] 31)
    MatL W' (some ⟨w.heap.size + 1 + 1, 0, none⟩) 1 [[0]] (fun _ => .slice (some ⟨w.heap.size + 1, 0, none⟩) 1 1) ∧ Ext w W' := by
  intro W'
  have h1 : (W.alloc (.cells #[.int .i64 0] 3)).heap[w.heap.size + 1]? = some (.cells #[.int .i64 0] 3 (0, 0)) := by rw [← hw]; exact heap_alloc_new W _
  have hz : (W.alloc (.cells #[.int .i64 0] 3)).heap.size = w.heap.size + 1 + 1 := by simp [hw]
  have h2 : W'.heap[w.heap.size + 1 + 1]? = some (.cells #[.slice (some ⟨w.heap.size + 1, 0, none⟩) 1 1] 31 (0, 0)) := by rw [← hz]; exact heap_alloc_new _ _
  have h3 : W'.heap[w.heap.size + 1]? = some (.cells #[.int .i64 0] 3 (0, 0)) := by rw [Ext.block (Ext.alloc _ _) (heap_lt h1)]; exact h1
  refine ⟨⟨Nat.le_refl _, by unfold maxLen; decide, w.heap.size + 1 + 1, 0, fun _ => ⟨rfl, _, _, h2⟩, fun i hi => ?_⟩, (hx.alloc' _).alloc' _⟩
  have e : i = 0 := by simp at hi; exact hi
  subst e
  refine ⟨by rw [cell_cells h2]; rfl, some ⟨w.heap.size + 1, 0, none⟩, 1, rfl, Nat.le_refl _, by unfold maxLen; decide, fun _ => ⟨w.heap.size + 1, _, rfl, h3, fun j hj => ?_⟩⟩
  have e : j = 0 := by have : j < 1 := hj; omega
  subst e
  rfl

set_option maxHeartbeats 1000000 in
theorem sDeskNew_any (w : World) : Calls Try.prog 63 #[] w (FreshD w [[0]]) := by
  go_enter Try.func63, Try.ntmps63
  go_wp2
  obtain ⟨h1, h2⟩ := new_one w (w.alloc (.cells #[.slice (some ⟨w.heap.size + 1 + 1, 0, none⟩) 1 1, .slice none 0 0] 26)) (by simp) (Ext.alloc _ _)
  refine bodyPost_ret (v := .agg #[.slice (some ⟨w.heap.size + 1 + 1, 0, none⟩) 1 1, .slice none 0 0]) (by simp [results, Try.results63, go_sem]) rfl ⟨_, 1, fun _ => .slice (some ⟨w.heap.size + 1, 0, none⟩) 1 1, rfl, h1, fun i j hi hj hij => ?_, fun i hi g hg => ?_, h2⟩
  · simp at hi hj; omega
  · simp [lb] at hg; omega
set_option maxHeartbeats 1000000 in
theorem eqNil_any (w : World) : Calls Try.prog 56 #[.slice none 0 0, .slice none 0 0] w fun e w' => e = .returned (.bool true) ∧ ∃ m, w' = w.drewN m := by
  go_enter Try.func56, Try.ntmps56
  go_wp2
  go_loopg [5] 0 (fun _ s5 wr => s5 = .int .i64 0 ∧ wr = w)
  case atStart => exact ⟨rfl, rfl⟩
  case round =>
    obtain ⟨rfl, rfl⟩ := hrel
    go_wp2
    go_ret
    exact ⟨rfl, 0, rfl⟩
set_option maxHeartbeats 1000000 in
theorem markNil_any (k : Int) (w : World) : Calls Try.prog 59 #[.slice none 0 0, .int .i64 k] w fun e w' => e = .returned (.int .i64 k) ∧ w' = w := by
  go_enter Try.func59, Try.ntmps59
  go_wp2
  go_loopg [5, 1] 0 (fun _ s5 s1 wr => s5 = .int .i64 0 ∧ s1 = .int .i64 k ∧ wr = w)
  case atStart => exact ⟨rfl, rfl, rfl⟩
  case round =>
    obtain ⟨rfl, rfl, rfl⟩ := hrel
    go_wp2
    go_ret
    exact ⟨rfl, rfl⟩
set_option maxHeartbeats 1000000 in
theorem heldNil_any (k : Int) (w : World) : Calls Try.prog 62 #[.slice none 0 0, .int .i64 k] w fun e w' => e = .returned (.int .i64 k) ∧ w' = w := by
  go_enter Try.func62, Try.ntmps62
  go_wp2
  go_loopg [5, 1] 0 (fun _ s5 s1 wr => s5 = .int .i64 0 ∧ s1 = .int .i64 k ∧ wr = w)
  case atStart => exact ⟨rfl, rfl, rfl⟩
  case round =>
    obtain ⟨rfl, rfl, rfl⟩ := hrel
    go_wp2
    go_ret
    exact ⟨rfl, rfl⟩

set_option maxHeartbeats 1000000 in
theorem eqDesk0_any (A B : Option Addr) (c d : Nat) (D E : List (List Int)) (w : World) (h1 : Mat w A c D) (h2 : Mat w B d E) :
    Calls Try.prog 25 #[.agg #[.slice A D.length c, .slice none 0 0], .agg #[.slice B E.length d, .slice none 0 0]] w fun e w' => e = .returned (.bool (eqM D E)) ∧ Ext w w' := by
  have HC := Lib.hid (fun W (k1 : Mat W A c D) (k2 : Mat W B d E) => eqIntSS_any A B c d D E W k1 k2)
  have H1 := Lib.hid h1
  have H2 := Lib.hid h2
  clear h1 h2
  cases e : eqM D E with
  | false =>
    rw [e] at HC
    go_enter Try.func25, Try.ntmps25
    go_wp2_with fail
    refine (HC.out _ (H1.out.ext (by repeat (first | exact Ext.refl _ | assumption | apply Ext.drewN' | apply Ext.alloc' | refine Ext.trans ?_ (by assumption)))) (H2.out.ext (by repeat (first | exact Ext.refl _ | assumption | apply Ext.drewN' | apply Ext.alloc' | refine Ext.trans ?_ (by assumption))))).mono ?_
    rintro e w1 ⟨rfl, m1, rfl⟩
    go_wp2
    go_ret
    exact ⟨rfl, (by repeat (first | exact Ext.refl _ | assumption | apply Ext.drewN' | apply Ext.alloc' | refine Ext.trans ?_ (by assumption)))⟩
  | true =>
    rw [e] at HC
    go_enter Try.func25, Try.ntmps25
    go_wp2_with fail
    refine (HC.out _ (H1.out.ext (by repeat (first | exact Ext.refl _ | assumption | apply Ext.drewN' | apply Ext.alloc' | refine Ext.trans ?_ (by assumption)))) (H2.out.ext (by repeat (first | exact Ext.refl _ | assumption | apply Ext.drewN' | apply Ext.alloc' | refine Ext.trans ?_ (by assumption))))).mono ?_
    rintro e w1 ⟨rfl, m1, rfl⟩
    go_wp2_with fail
    refine (eqNil_any _).mono ?_
    rintro e w2 ⟨rfl, m2, rfl⟩
    go_wp2
    go_ret
    exact ⟨rfl, (by repeat (first | exact Ext.refl _ | assumption | apply Ext.drewN' | apply Ext.alloc' | refine Ext.trans ?_ (by assumption)))⟩

set_option maxHeartbeats 1000000 in
theorem markDesk0_any (A : Option Addr) (c : Nat) (D : List (List Int)) (V : Nat → Value) (k : Int) (w : World) (h : MatL w A c D V) (hd : Dis D.length V) (hk0 : 0 ≤ k) (hk1 : k ≤ 900000000000) (hn : D.length ≤ 10000000) (hz : total D ≤ 10000000) :
    Calls Try.prog 27 #[.agg #[.slice A D.length c, .slice none 0 0], .int .i64 k] w fun e w' => e = .returned (.int .i64 (k + total D)) ∧ MatL w' A c (markM D k) V ∧ ∃ W1, Ext w W1 ∧ Only (LV D.length V) W1 w' := by
  have HC := Lib.hid (fun W (q : MatL W A c D V) => markIntSS_any A c D V k W q hd hk0 hk1 hn hz)
  have H1 := Lib.hid h
  clear h
  go_enter Try.func27, Try.ntmps27
  go_wp2_with fail
  refine (HC.out _ (H1.out.ext (by repeat (first | exact Ext.refl _ | assumption | apply Ext.drewN' | apply Ext.alloc' | refine Ext.trans ?_ (by assumption))))).mono ?_
  rintro e w1 ⟨rfl, hm, ho⟩
  have hb : w1.heap[w.heap.size]? = some (.cells #[.slice A D.length c, .slice none 0 0] 26 (0, 0)) := by
    rw [ho.2.2.2.2 _ (fun ⟨i, hi, hg⟩ => absurd (H1.out.lt hi hg) (by omega))]
    exact heap_alloc_new w _
  have c1 : w1.cell? ⟨w.heap.size, 1, none⟩ = some (.slice none 0 0) := by rw [cell_cells hb]; rfl
  have HM := Lib.hid hm
  have HO := Lib.hid ho
  clear hm ho hb
  go_wp2_with fail
  refine (markNil_any _ _).mono ?_
  rintro e w2 ⟨rfl, rfl⟩
  go_wp2
  go_ret
  exact ⟨rfl, HM.out, _, Ext.alloc _ _, HO.out⟩

set_option maxHeartbeats 1000000 in
theorem heldDesk0_any (A : Option Addr) (c : Nat) (D : List (List Int)) (V : Nat → Value) (k : Int) (w : World) (h : MatL w A c (markM D k) V) (hk0 : 0 ≤ k) (hk1 : k ≤ 900000000000) (hn : D.length ≤ 10000000) (hz : total D ≤ 10000000) :
    Calls Try.prog 29 #[.agg #[.slice A D.length c, .slice none 0 0], .int .i64 k] w fun e w' => e = .returned (.int .i64 (k + total D)) ∧ Ext w w' := by
  have HC := Lib.hid (fun W (q : MatL W A c (markM D k) V) => heldmkM_any A c D V k W q hk0 hk1 hn hz)
  have H1 := Lib.hid h
  clear h
  go_enter Try.func29, Try.ntmps29
  go_wp2_with fail
  refine (HC.out _ (H1.out.ext (by repeat (first | exact Ext.refl _ | assumption | apply Ext.drewN' | apply Ext.alloc' | refine Ext.trans ?_ (by assumption))))).mono ?_
  rintro e w1 ⟨rfl, m1, rfl⟩
  go_wp2_with fail
  refine (heldNil_any _ _).mono ?_
  rintro e w2 ⟨rfl, rfl⟩
  go_wp2
  go_ret
  exact ⟨rfl, (by repeat (first | exact Ext.refl _ | assumption | apply Ext.drewN' | apply Ext.alloc' | refine Ext.trans ?_ (by assumption)))⟩
end Go.Proofs.Ytbkefojepelggaa
