/- What is proved: impl.arePoints returns whether there are a space and points of it; with its closure and slices.ContainsFunc, slices.IndexFunc at it. No condition but sizes. -/
import Derived.Test.YtimelegkgaimjaaApp
namespace Go.Proofs.Ytimelegkgaimjaa
open Go.RowKit

set_option maxHeartbeats 1000000 in
theorem arePointsFn_any (A : Option Addr) (c : Nat) (D : List (List Int)) (p : Int) (g : Nat) (w : World) (h : Mat w A c D) (hg : w.cell? ⟨g, 0, none⟩ = some (.slice A D.length c)) :
    Calls Try.prog 71 #[.int .i64 p, .pointer (some ⟨g, 0, none⟩)] w fun e w' => e = .returned (.bool (!pointB D p)) ∧ ∃ m, w' = w.drewN m := by
  have HC := Lib.hid (hasPoint_any A c D p w h)
  go_enter Try.func71, Try.ntmps71
  go_wp2_with (go_at_call 72; refine HC.out.mono ?_; rintro e w' ⟨rfl, m0, rfl⟩)
  go_ret
  exact ⟨rfl, _, rfl⟩

def idxF (q : Int → Bool) (xs : List Int) : Nat → Nat → Int
  | 0, _ => -1
  | g + 1, i => if q (ix xs i) = true then (i : Int) else idxF q xs g (i + 1)
theorem idxF_all (q : Int → Bool) (xs : List Int) : ∀ g i, i + g = xs.length → (idxF q xs g i < 0 ↔ ∀ x ∈ xs.drop i, q x = false)
  | 0, i, h => by
    have : xs.drop i = [] := List.drop_eq_nil_of_le (by omega)
    simp [idxF, this]
  | g + 1, i, h => by
    have hi : i < xs.length := by omega
    rw [idxF, List.drop_eq_getElem_cons hi, ← ix_of hi]
    by_cases e : q (ix xs i) = true
    · rw [if_pos e]; simp [e]
    · rw [if_neg e, idxF_all q xs g (i + 1) (by omega)]
      simp [Bool.not_eq_true] at e
      simp [e]

def badB (D : List (List Int)) (x : Int) : Bool := !pointB D x
def ptsB (D : List (List Int)) (xs : List Int) : Bool := xs.all (pointB D)
theorem ptsB_idx (D : List (List Int)) (xs : List Int) : ptsB D xs = !decide (0 ≤ idxF (badB D) xs xs.length 0) := by
  have h := idxF_all (badB D) xs xs.length 0 (by omega)
  rw [List.drop_zero] at h
  unfold ptsB
  rw [Bool.eq_iff_iff]
  simp only [List.all_eq_true, Bool.not_eq_true', decide_eq_false_iff_not]
  rw [show (¬ 0 ≤ idxF (badB D) xs xs.length 0) ↔ idxF (badB D) xs xs.length 0 < 0 by omega, h]
  simp [badB]

set_option maxHeartbeats 1000000 in
theorem IndexFnPts_any (A : Option Addr) (c : Nat) (D : List (List Int)) (g : Nat) (B : Option Addr) (d : Nat) (xs : List Int) (w : World) (h : Mat w A c D) (hg : w.cell? ⟨g, 0, none⟩ = some (.slice A D.length c)) (hx : Ints w B d xs) :
    Calls Try.prog 76 #[.slice B xs.length d, .func (.func 71) #[] #[.pointer (some ⟨g, 0, none⟩)]] w fun e w' => e = .returned (.int .i64 (idxF (badB D) xs xs.length 0)) ∧ ∃ m, w' = w.drewN m := by
  obtain ⟨h1, h2, b, o, hB, hc⟩ := hx
  unfold maxLen at h2
  have HC := Lib.hid (fun p W (k : Mat W A c D) (k2 : W.cell? ⟨g, 0, none⟩ = some (.slice A D.length c)) => arePointsFn_any A c D p g W k k2)
  have HM := Lib.hid h
  have HG := Lib.hid hg
  clear hg
  go_enter Try.func76, Try.ntmps76
  go_wp2
  go_loopg [8] (xs.length) (fun g s8 wr => ∃ (i m : Nat), i + g = xs.length ∧ s8 = .int .i64 i ∧ wr = w.drewN m ∧ Hid (idxF (badB D) xs g i = idxF (badB D) xs xs.length 0))
  case atStart => exact ⟨0, _, by omega, rfl, by first | rfl | exact drewN_0 _ | exact drewN_add _ _ _, Lib.hid (rfl)⟩
  case round =>
    obtain ⟨i, mi, hi, rfl, rfl, Hi⟩ := hrel
    by_cases hini : i < xs.length
    · obtain ⟨gi, rfl⟩ : ∃ g', gk = g' + 1 := ⟨gk - 1, by omega⟩
      have hini' : (i : Int) < (xs.length : Nat) := by omega
      obtain rfl := hB (by omega)
      have c1 := hc i hini
      clear hc
      have Hst := Lib.hid (show idxF (badB D) xs (gi + 1) i = if (!pointB D (ix xs i)) = true then (i : Int) else idxF (badB D) xs gi (i + 1) from rfl)
      cases e : (!pointB D (ix xs i)) with
      | true =>
        rw [e] at Hst
        go_wp2_with (go_at_call 71; refine (HC.out _ _ (by exact HM.out) (by exact HG.out)).mono ?_; rintro e w' ⟨rfl, m0, rfl⟩)
        go_ret
        exact ⟨ret_int (by rw [← Hi.out, Hst.out]; rfl), _, by first | rfl | exact drewN_add _ _ _⟩
      | false =>
        rw [e] at Hst
        go_wp2_with (go_at_call 71; refine (HC.out _ _ (by exact HM.out) (by exact HG.out)).mono ?_; rintro e w' ⟨rfl, m0, rfl⟩)
        go_roundg gi
        case measure => omega
        case rel => exact ⟨i + 1, _, by omega, by go_num, by first | rfl | exact drewN_0 _ | exact drewN_add _ _ _, Lib.hid (by rw [← Hi.out, Hst.out]; rfl)⟩
    · have hini' : ¬ (i : Int) < (xs.length : Nat) := by omega
      obtain rfl : gk = 0 := by omega
      clear hc
      go_wp2
      go_ret
      exact ⟨ret_int (by rw [← Hi.out]; rfl), _, rfl⟩

set_option maxHeartbeats 1000000 in
theorem ContainsFnPts_any (A : Option Addr) (c : Nat) (D : List (List Int)) (g : Nat) (B : Option Addr) (d : Nat) (xs : List Int) (w : World) (h : Mat w A c D) (hg : w.cell? ⟨g, 0, none⟩ = some (.slice A D.length c)) (hx : Ints w B d xs) :
    Calls Try.prog 70 #[.slice B xs.length d, .func (.func 71) #[] #[.pointer (some ⟨g, 0, none⟩)]] w fun e w' => e = .returned (.bool (!ptsB D xs)) ∧ ∃ m, w' = w.drewN m := by
  have HC := Lib.hid (IndexFnPts_any A c D g B d xs w h hg hx)
  have HV := Lib.hid (ptsB_idx D xs)
  clear hg
  go_enter Try.func70, Try.ntmps70
  go_wp2_with (go_at_call 76; refine HC.out.mono ?_; rintro e w' ⟨rfl, m0, rfl⟩)
  go_ret
  exact ⟨ret_bool (by rw [HV.out, Bool.not_not]), _, rfl⟩

set_option maxHeartbeats 1000000 in
theorem arePoints_any (A : Option Addr) (c : Nat) (D : List (List Int)) (B : Option Addr) (d : Nat) (xs : List Int) (w : World) (h : Mat w A c D) (hx : Ints w B d xs) :
    Calls Try.prog 57 #[.slice A D.length c, .slice B xs.length d] w fun e w' => e = .returned (.bool (ptsB D xs)) ∧ Ext w w' := by
  have HC := Lib.hid (fun W (k : Mat W A c D) (k2 : W.cell? ⟨w.heap.size, 0, none⟩ = some (.slice A D.length c)) (k3 : Ints W B d xs) => ContainsFnPts_any A c D w.heap.size B d xs W k k2 k3)
  have HM := Lib.hid h
  have HI := Lib.hid hx
  clear hx
  go_enter Try.func57, Try.ntmps57
  go_wp2_with (go_at_call 70; refine (HC.out _ (HM.out.ext (Ext.alloc _ _)) (by exact cell_cells (heap_alloc_new w _) 0) (HI.out.ext (Ext.alloc _ _))).mono ?_; rintro e w' ⟨rfl, m0, rfl⟩)
  go_ret
  exact ⟨ret_bool (by simp), (by repeat (first | exact Ext.refl _ | assumption | apply Ext.drewN' | apply Ext.alloc' | refine Ext.trans ?_ (by assumption)))⟩
end Go.Proofs.Ytimelegkgaimjaa
