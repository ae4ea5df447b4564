/- What is proved: sameDesk, isDesk, DeskOk at a desk without a past. Conditions: those of each contract. -/
import Derived.Test.YtpcjcgaplmlnlaaDesk0
import Derived.Test.YtpcjcgaplmlnlaaSplit
namespace Go.Proofs.Ytpcjcgaplmlnlaa
open Go.RowKit

set_option maxHeartbeats 1000000 in
theorem sameDesk0_any (A B : Option Addr) (c d : Nat) (D E : List (List Int)) (w : World) (h1 : Mat w A c D) (h2 : Mat w B d E) :
    Calls Try.prog 10 #[.agg #[.slice A D.length c, .slice none 0 0], .agg #[.slice B E.length d, .slice none 0 0]] w fun e w' => e = .returned (.bool (eqM D E)) ∧ Ext w w' := by
  have HC := Lib.hid (fun W (k1 : Mat W A c D) (k2 : Mat W B d E) => sameRows_any A B c d D E W k1 k2)
  have H1 := Lib.hid h1
  have H2 := Lib.hid h2
  clear h1 h2
  go_enter Try.func10, Try.ntmps10
  go_wp2
  go_loopg [5] 0 (fun _ s5 wr => s5 = .int .i64 0 ∧ wr = (w.alloc (.cells #[.slice A D.length c, .slice none 0 0] 26)).alloc (.cells #[.slice B E.length d, .slice none 0 0] 26))
  case atStart => exact ⟨rfl, rfl⟩
  case round =>
    obtain ⟨rfl, rfl⟩ := hrel
    have b0 : ((w.alloc (.cells #[.slice A D.length c, .slice none 0 0] 26)).alloc (.cells #[.slice B E.length d, .slice none 0 0] 26)).heap[w.heap.size]? = some (.cells #[.slice A D.length c, .slice none 0 0] 26 (0, 0)) := by
      rw [Ext.block (Ext.alloc _ _) (by simp)]; exact heap_alloc_new w _
    have c0 := cell_cells b0 0
    have c1 := cell_cells b0 1
    simp only [List.getElem?_toArray, List.getElem?_cons_zero, List.getElem?_cons_succ] at c0 c1
    clear b0
    go_wp2_with fail
    refine (HC.out _ (H1.out.ext (by repeat (first | exact Ext.refl _ | assumption | apply Ext.drewN' | apply Ext.alloc' | refine Ext.trans ?_ (by assumption)))) (H2.out.ext (by repeat (first | exact Ext.refl _ | assumption | apply Ext.drewN' | apply Ext.alloc' | refine Ext.trans ?_ (by assumption))))).mono ?_
    rintro e w1 ⟨rfl, m1, rfl⟩
    go_wp2
    go_ret
    exact ⟨rfl, (by repeat (first | exact Ext.refl _ | assumption | apply Ext.drewN' | apply Ext.alloc' | refine Ext.trans ?_ (by assumption)))⟩

set_option maxHeartbeats 1000000 in
theorem IndexFnNil_any (f : Value) (w : World) : Calls Try.prog 49 #[.slice none 0 0, f] w fun e w' => e = .returned (.int .i64 (-1)) ∧ w' = w := by
  go_enter Try.func49, Try.ntmps49
  go_wp2
  go_loopg [8] 0 (fun _ s8 wr => s8 = .int .i64 0 ∧ wr = w)
  case atStart => exact ⟨rfl, rfl⟩
  case round =>
    obtain ⟨rfl, rfl⟩ := hrel
    go_wp2
    go_ret
    exact ⟨rfl, rfl⟩
set_option maxHeartbeats 1000000 in
theorem ContainsFnNil_any (f : Value) (w : World) : Calls Try.prog 43 #[.slice none 0 0, f] w fun e w' => e = .returned (.bool false) ∧ w' = w := by
  go_enter Try.func43, Try.ntmps43
  go_wp2_with fail
  refine (IndexFnNil_any _ _).mono ?_
  rintro e w1 ⟨rfl, rfl⟩
  go_wp2
  go_ret
  exact ⟨rfl, rfl⟩
set_option maxHeartbeats 1000000 in
theorem isDesk0_any (A : Option Addr) (c : Nat) (D : List (List Int)) (w : World) (h : Mat w A c D) :
    Calls Try.prog 30 #[.agg #[.slice A D.length c, .slice none 0 0]] w fun e w' => e = .returned (.bool (spB D)) ∧ Ext w w' := by
  have HC := Lib.hid (fun W (k1 : Mat W A c D) => isSpace_any A c D W k1)
  have H1 := Lib.hid h
  clear h
  cases e : spB D with
  | false =>
    rw [e] at HC
    clear e
    go_enter Try.func30, Try.ntmps30
    go_wp2_with fail
    refine (HC.out _ (H1.out.ext (by repeat (first | exact Ext.refl _ | assumption | apply Ext.drewN' | apply Ext.alloc' | refine Ext.trans ?_ (by assumption))))).mono ?_
    rintro e w1 ⟨rfl, m1, rfl⟩
    go_wp2
    go_ret
    exact ⟨rfl, (by repeat (first | exact Ext.refl _ | assumption | apply Ext.drewN' | apply Ext.alloc' | refine Ext.trans ?_ (by assumption)))⟩
  | true =>
    rw [e] at HC
    clear e
    go_enter Try.func30, Try.ntmps30
    go_wp2_with fail
    refine (HC.out _ (H1.out.ext (by repeat (first | exact Ext.refl _ | assumption | apply Ext.drewN' | apply Ext.alloc' | refine Ext.trans ?_ (by assumption))))).mono ?_
    rintro e w1 ⟨rfl, m1, rfl⟩
    go_wp2_with fail
    refine (ContainsFnNil_any _ _).mono ?_
    rintro e w2 ⟨rfl, rfl⟩
    go_wp2
    go_ret
    exact ⟨rfl, (by repeat (first | exact Ext.refl _ | assumption | apply Ext.drewN' | apply Ext.alloc' | refine Ext.trans ?_ (by assumption)))⟩
set_option maxHeartbeats 1000000 in
theorem iDeskOk0_any (A : Option Addr) (c : Nat) (D : List (List Int)) (w : World) (h : Mat w A c D) :
    Calls Try.prog 12 #[.agg #[.slice A D.length c, .slice none 0 0]] w fun e w' => e = .returned (.bool (spB D)) ∧ Ext w w' := by
  have HC := Lib.hid (fun W (k1 : Mat W A c D) => isDesk0_any A c D W k1)
  have H1 := Lib.hid h
  clear h
  go_enter Try.func12, Try.ntmps12
  go_wp2_with fail
  refine (HC.out _ (H1.out.ext (by repeat (first | exact Ext.refl _ | assumption | apply Ext.drewN' | apply Ext.alloc' | refine Ext.trans ?_ (by assumption))))).mono ?_
  rintro e w1 ⟨rfl, hx1⟩
  go_wp2
  go_ret
  exact ⟨rfl, (by repeat (first | exact Ext.refl _ | assumption | apply Ext.drewN' | apply Ext.alloc' | refine Ext.trans ?_ (by assumption)))⟩
end Go.Proofs.Ytpcjcgaplmlnlaa
