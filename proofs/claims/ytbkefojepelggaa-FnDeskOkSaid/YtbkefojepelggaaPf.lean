/- What is proved: impl.pointFits and spec.PointFits return whether a new point may be so far from all points. No condition. -/
import Derived.Test.YtbkefojepelggaaStep
import Derived.Test.YtbkefojepelggaaSplit
namespace Go.Proofs.Ytbkefojepelggaa
open Go.RowKit
def pfC (D : List (List Int)) (xs : List Int) (k j : Nat) : Bool := decide (ix xs k - ix xs j ≤ at2 D k j) && (decide (k = j) || decide (at2 D k j ≤ ix xs k + ix xs j))
def pfI (D : List (List Int)) (xs : List Int) : Bool := allR (fun k => inB (ix xs k) 1 60) D.length 0
def pfA (D : List (List Int)) (xs : List Int) : Bool := allR (fun k => allR (fun j => pfC D xs k j) D.length 0) D.length 0
/-- whether a new point may be so far -/
def fitsB (D : List (List Int)) (xs : List Int) : Bool := (spB D && decide (D.length < 6 ∧ xs.length = D.length)) && (pfI D xs && pfA D xs)
/-- a cell as the code looks at it -/
def pfW (D : List (List Int)) (xs : List Int) (k j : Nat) : Bool := inB (ix xs k) 1 60 && (decide (wrap64 (ix xs k - ix xs j) ≤ at2 D k j) && (decide (k = j) || decide (at2 D k j ≤ wrap64 (ix xs k + ix xs j))))
theorem inB_iff {n lo hi : Int} : inB n lo hi = true ↔ lo ≤ n ∧ n ≤ hi := by unfold inB; exact decide_eq_true_iff
theorem pfW_all {D : List (List Int)} {xs : List Int} (_h1 : 1 ≤ D.length) : allR (fun k => allR (fun j => pfW D xs k j) D.length 0) D.length 0 = (pfI D xs && pfA D xs) := by
  have hw : ∀ a b : Int, 1 ≤ a ∧ a ≤ 60 → 1 ≤ b ∧ b ≤ 60 → wrap64 (a - b) = a - b ∧ wrap64 (a + b) = a + b := fun a b h1 h2 => ⟨IntWalk.wrap64_in _ ⟨by omega, by omega⟩, IntWalk.wrap64_in _ ⟨by omega, by omega⟩⟩
  have hcell : (∀ k, k < D.length → inB (ix xs k) 1 60 = true) → ∀ k, k < D.length → ∀ j, j < D.length → pfW D xs k j = pfC D xs k j := fun h k hk j hj => by
    obtain ⟨e1, e2⟩ := hw _ _ (inB_iff.1 (h k hk)) (inB_iff.1 (h j hj))
    unfold pfW pfC
    rw [h k hk, e1, e2, Bool.true_and]
  rw [Bool.eq_iff_iff, Bool.and_eq_true]
  unfold pfI pfA
  rw [allR_all, allR_all, allR_all]
  constructor
  · intro h
    have hin : ∀ k, k < D.length → inB (ix xs k) 1 60 = true := fun k hk => by
      have := (allR_all _ _).1 (h k hk) k hk
      unfold pfW at this
      rw [Bool.and_eq_true] at this
      exact this.1
    refine ⟨hin, fun k hk => (allR_all _ _).2 fun j hj => ?_⟩
    rw [← hcell hin k hk j hj]
    exact (allR_all _ _).1 (h k hk) j hj
  · rintro ⟨hin, h⟩ k hk
    refine (allR_all _ _).2 fun j hj => ?_
    rw [hcell hin k hk j hj]
    exact (allR_all _ _).1 (h k hk) j hj
set_option maxRecDepth 100000 in
set_option maxHeartbeats 8000000 in
theorem sPointFits_ex (A : Option Addr) (cp : Nat) (D : List (List Int)) (B : Option Addr) (cq : Nat) (xs : List Int) (w : World) (h : Mat w A cp D) (hx : Ints w B cq xs) :
    Calls Try.prog 87 #[.slice A D.length cp, .slice B xs.length cq] w fun e w' => e = .returned (.bool (fitsB D xs)) ∧ ∃ m, w' = w.drewN m := by
  have hcm := h.2.1
  have hlc := h.1
  unfold maxLen at hcm
  have hcx := hx.2.1
  have hlx := hx.1
  unfold maxLen at hcx
  have HC := Lib.hid (SpaceOk_any A cp D w h)
  have HD := Lib.hid (show fitsB D xs = ((spB D && decide (D.length < 6 ∧ xs.length = D.length)) && (pfI D xs && pfA D xs)) from rfl)
  cases hs : spB D with
  | false =>
    have HF := Lib.hid (show fitsB D xs = false by rw [HD.out, hs]; rfl)
    rw [hs] at HC
    clear hs h hx
    go_enter Try.func87, Try.ntmps87
    go_wp2_with fail
    refine (HC.out).mono ?_
    rintro e w1 ⟨rfl, m1, rfl⟩
    go_wp2
    go_ret
    exact ⟨ret_bool HF.out.symm, _, by first | rfl | exact drewN_add _ _ _⟩
  | true =>
  rw [hs] at HC
  by_cases h6 : 6 ≤ D.length
  · have h6' : (6 : Int) ≤ (D.length : Nat) := by omega
    have HF := Lib.hid (show fitsB D xs = false by rw [HD.out, decide_eq_false (fun q => by omega), Bool.and_false, Bool.false_and])
    clear hs h hx
    go_enter Try.func87, Try.ntmps87
    go_wp2_with fail
    refine (HC.out).mono ?_
    rintro e w1 ⟨rfl, m1, rfl⟩
    go_wp2
    go_ret
    exact ⟨ret_bool HF.out.symm, _, by first | rfl | exact drewN_add _ _ _⟩
  have h6' : ¬ (6 : Int) ≤ (D.length : Nat) := by omega
  by_cases hl : xs.length = D.length
  rotate_left
  · have hl' : ((xs.length : Int) != (D.length : Int)) = true := by simp; omega
    have HF := Lib.hid (show fitsB D xs = false by rw [HD.out, decide_eq_false (fun q => hl q.2), Bool.and_false, Bool.false_and])
    clear hs h hx
    go_enter Try.func87, Try.ntmps87
    go_wp2_with fail
    refine (HC.out).mono ?_
    rintro e w1 ⟨rfl, m1, rfl⟩
    go_wp2
    go_ret
    exact ⟨ret_bool HF.out.symm, _, by first | rfl | exact drewN_add _ _ _⟩
  · obtain ⟨⟨hn1, hn6⟩, hsq, hcells⟩ := farB_parts (spB_far hs)
    have HFIN := Lib.hid (show fitsB D xs = allR (fun k => allR (fun j => pfW D xs k j) D.length 0) D.length 0 by rw [pfW_all hn1, HD.out, hs, decide_eq_true ⟨by omega, hl⟩]; rfl)
    obtain ⟨bk, o, rc, rb, ro, hA, hrow, hlen, hcell, -⟩ := h.square hsq
    obtain rfl := hA (by omega)
    obtain ⟨-, -, b2, o2, hB, hc2⟩ := hx
    obtain rfl := hB (by omega)
    rw [hl] at hc2
    have HROW := Lib.hid hrow
    have HLEN := Lib.hid hlen
    have HCE := Lib.hid hcell
    have HX := Lib.hid hc2
    have HW := Lib.hid (fun k j => show pfW D xs k j = (inB (ix xs k) 1 60 && (decide (wrap64 (ix xs k - ix xs j) ≤ at2 D k j) && (decide (k = j) || decide (at2 D k j ≤ wrap64 (ix xs k + ix xs j))))) from rfl)
    have hl' : ((D.length : Int) != (D.length : Int)) = false := by simp
    have HSj := Lib.hid (fun g k j => show allR (fun j => pfW D xs k j) (g + 1) j = (pfW D xs k j && allR (fun j => pfW D xs k j) g (j + 1)) from rfl)
    have HSk := Lib.hid (fun g k => show allR (fun k => allR (fun j => pfW D xs k j) D.length 0) (g + 1) k = (allR (fun j => pfW D xs k j) D.length 0 && allR (fun k => allR (fun j => pfW D xs k j) D.length 0) g (k + 1)) from rfl)
    obtain ⟨n, hn⟩ : ∃ n, xs.length = n := ⟨_, rfl⟩
    rw [hn] at hl hlx
    rw [hn]
    subst hl
    clear hs h hsq hcells hrow hlen hcell hA hB hc2 hn
    go_enter Try.func87, Try.ntmps87
    go_wp2_with fail
    refine (HC.out).mono ?_
    rintro e w1 ⟨rfl, m1, rfl⟩
    go_wp2
    go_loopg [5] (D.length) (fun g s5 wr => ∃ (k m : Nat), k + g = D.length ∧ s5 = .int .i64 k ∧ wr = w.drewN m ∧ Hid (allR (fun k => allR (fun j => pfW D xs k j) D.length 0) g k = allR (fun k => allR (fun j => pfW D xs k j) D.length 0) D.length 0))
    case atStart => exact ⟨0, _, by omega, rfl, by first | rfl | exact drewN_0 _ | exact drewN_add _ _ _, Lib.hid (rfl)⟩
    case round =>
      obtain ⟨k, mk, hk, rfl, rfl, Hk⟩ := hrel
      by_cases hink : k < D.length
      · obtain ⟨gk, rfl⟩ : ∃ g', gk = g' + 1 := ⟨gk - 1, by omega⟩
        have hink' : (k : Int) < (D.length : Nat) := by omega
        go_wp2
        go_loopg [6] (D.length) (fun g s6 wr => ∃ (j m : Nat), j + g = D.length ∧ s6 = .int .i64 j ∧ wr = w.drewN m ∧ Hid (allR (fun j => pfW D xs k j) g j = allR (fun j => pfW D xs k j) D.length 0))
        case atStart => exact ⟨0, _, by omega, rfl, by first | rfl | exact drewN_0 _ | exact drewN_add _ _ _, Lib.hid (rfl)⟩
        case round =>
          obtain ⟨j, mj, hj, rfl, rfl, Hj⟩ := hrel
          by_cases hinj : j < D.length
          · obtain ⟨gj, rfl⟩ : ∃ g', gk = g' + 1 := ⟨gk - 1, by omega⟩
            have hinj' : (j : Int) < (D.length : Nat) := by omega
            have r1 := HROW.out k hink
            have hl1 := (HLEN.out k hink).1
            have c1 := HCE.out k hink j hinj
            have x1 := HX.out k hink
            have x2 := HX.out j hinj
            have HWk := Lib.hid (HW.out k j)
            have HSt := Lib.hid (HSj.out gj k j)
            obtain ⟨X, hX⟩ : ∃ X, ix xs k = X := ⟨_, rfl⟩
            obtain ⟨Y, hY⟩ : ∃ Y, ix xs j = Y := ⟨_, rfl⟩
            obtain ⟨Z, hZ⟩ : ∃ Z, at2 D k j = Z := ⟨_, rfl⟩
            rw [hX] at x1 HWk
            rw [hY] at x2 HWk
            rw [hZ] at c1 HWk
            clear hX hY hZ
            obtain ⟨S, hS1⟩ : ∃ S, wrap64 (X - Y) = S := ⟨_, rfl⟩
            obtain ⟨T, hT1⟩ : ∃ S, wrap64 (X + Y) = S := ⟨_, rfl⟩
            have hS2 : IntKind.i64.wrap (X - Y) = S := (IntWalk.i64_left _).trans hS1
            have hT2 : IntKind.i64.wrap (X + Y) = T := (IntWalk.i64_left _).trans hT1
            rw [hS1, hT1] at HWk
            have HBAD := Lib.hid (fun (q : pfW D xs k j = false) => show fitsB D xs = false by rw [HFIN.out, ← Hk.out, HSk.out, ← Hj.out, HSt.out, q, Bool.false_and, Bool.false_and])
            have HGOOD := Lib.hid (fun (q : pfW D xs k j = true) => show allR (fun j => pfW D xs k j) gj (j + 1) = allR (fun j => pfW D xs k j) D.length 0 by rw [← Hj.out, HSt.out, q, Bool.true_and])
            have HIN := Lib.hid (fun W => l1In_any X 1 60 W)
            cases ei : inB X 1 60 with
            | false =>
              have HF := Lib.hid (HBAD.out (by rw [HWk.out, ei]; rfl))
              rw [ei] at HIN
              clear ei
              go_wp2
              go_big_quiet ((go_at_call 80; exact quiet_add_same (HIN.out _)))
              go_wp2
              go_ret
              exact ⟨ret_bool HF.out.symm, _, by first | rfl | exact drewN_add _ _ _⟩
            | true =>
              rw [ei, Bool.true_and] at HWk
              rw [ei] at HIN
              clear ei
              by_cases h1 : Z < S
              · have h1d : decide (Z < S) = true := decide_eq_true h1
                have HF := Lib.hid (HBAD.out (by rw [HWk.out, decide_eq_false (show ¬ S ≤ Z by omega)]; rfl))
                go_wp2
                go_big_quiet ((go_at_call 80; exact quiet_add_same (HIN.out _)))
                go_wp2
                go_ret
                exact ⟨ret_bool HF.out.symm, _, by first | rfl | exact drewN_add _ _ _⟩
              · have h1d : decide (Z < S) = false := decide_eq_false h1
                rw [decide_eq_true (show S ≤ Z by omega), Bool.true_and] at HWk
                by_cases hkj : k = j
                · have hkj' : ((k : Int) != (j : Int)) = false := by simp; omega
                  have HG := Lib.hid (HGOOD.out (by rw [HWk.out, decide_eq_true hkj]; rfl))
                  clear hkj
                  go_wp2
                  go_big_quiet ((go_at_call 80; exact quiet_add_same (HIN.out _)))
                  go_wp2
                  go_roundg gj
                  case measure => omega
                  case rel => exact ⟨j + 1, _, by omega, by go_num, by first | rfl | exact drewN_0 _ | exact drewN_add _ _ _, Lib.hid (by exact HG.out)⟩
                · have hkj' : ((k : Int) != (j : Int)) = true := by simp; omega
                  rw [decide_eq_false hkj, Bool.false_or] at HWk
                  clear hkj
                  by_cases h2 : T < Z
                  · have h2d : decide (T < Z) = true := decide_eq_true h2
                    have HF := Lib.hid (HBAD.out (by rw [HWk.out, decide_eq_false (show ¬ Z ≤ T by omega)]))
                    go_wp2
                    go_big_quiet ((go_at_call 80; exact quiet_add_same (HIN.out _)))
                    go_wp2
                    go_ret
                    exact ⟨ret_bool HF.out.symm, _, by first | rfl | exact drewN_add _ _ _⟩
                  · have h2d : decide (T < Z) = false := decide_eq_false h2
                    have HG := Lib.hid (HGOOD.out (by rw [HWk.out, decide_eq_true (show Z ≤ T by omega)]))
                    go_wp2
                    go_big_quiet ((go_at_call 80; exact quiet_add_same (HIN.out _)))
                    go_wp2
                    go_roundg gj
                    case measure => omega
                    case rel => exact ⟨j + 1, _, by omega, by go_num, by first | rfl | exact drewN_0 _ | exact drewN_add _ _ _, Lib.hid (by exact HG.out)⟩
          · have hinj' : ¬ (j : Int) < (D.length : Nat) := by omega
            obtain rfl : gk = 0 := by omega
            have HT := Lib.hid (show allR (fun j => pfW D xs k j) D.length 0 = true by rw [← Hj.out]; rfl)
            go_wp2
            go_roundg gk
            case measure => omega
            case rel => exact ⟨k + 1, _, by omega, by go_num, by first | rfl | exact drewN_0 _ | exact drewN_add _ _ _, Lib.hid (by rw [← Hk.out, HSk.out, HT.out, Bool.true_and])⟩
      · have hink' : ¬ (k : Int) < (D.length : Nat) := by omega
        obtain rfl : gk = 0 := by omega
        go_wp2
        go_ret
        exact ⟨ret_bool (by rw [HFIN.out, ← Hk.out]; rfl), _, by first | rfl | exact drewN_add _ _ _⟩
set_option maxRecDepth 100000 in
set_option maxHeartbeats 8000000 in
theorem pointFits_any (A : Option Addr) (cp : Nat) (D : List (List Int)) (B : Option Addr) (cq : Nat) (xs : List Int) (w : World) (h : Mat w A cp D) (hx : Ints w B cq xs) :
    Calls Try.prog 91 #[.slice A D.length cp, .slice B xs.length cq] w fun e w' => e = .returned (.bool (fitsB D xs)) ∧ ∃ m, w' = w.drewN m := by
  have hcm := h.2.1
  have hlc := h.1
  unfold maxLen at hcm
  have hcx := hx.2.1
  have hlx := hx.1
  unfold maxLen at hcx
  have HC := Lib.hid (isSpace_any A cp D w h)
  have HD := Lib.hid (show fitsB D xs = ((spB D && decide (D.length < 6 ∧ xs.length = D.length)) && (pfI D xs && pfA D xs)) from rfl)
  cases hs : spB D with
  | false =>
    have HF := Lib.hid (show fitsB D xs = false by rw [HD.out, hs]; rfl)
    rw [hs] at HC
    clear hs h hx
    go_enter Try.func91, Try.ntmps91
    go_wp2_with fail
    refine (HC.out).mono ?_
    rintro e w1 ⟨rfl, m1, rfl⟩
    go_wp2
    go_ret
    exact ⟨ret_bool HF.out.symm, _, by first | rfl | exact drewN_add _ _ _⟩
  | true =>
  rw [hs] at HC
  have hn6 := (farB_parts (spB_far hs)).1.2
  by_cases h6 : D.length = 6
  · have h6' : (((D.length : Nat) : Int) == 6) = true := beq_iff_eq.2 (by omega)
    have HF := Lib.hid (show fitsB D xs = false by rw [HD.out, decide_eq_false (fun q => by omega), Bool.and_false, Bool.false_and])
    clear hs h hx h6
    go_enter Try.func91, Try.ntmps91
    go_wp2_with fail
    refine (HC.out).mono ?_
    rintro e w1 ⟨rfl, m1, rfl⟩
    go_wp2
    go_ret
    exact ⟨ret_bool HF.out.symm, _, by first | rfl | exact drewN_add _ _ _⟩
  have h6' : (((D.length : Nat) : Int) == 6) = false := beq_eq_false_iff_ne.2 (by omega)
  by_cases hl : xs.length = D.length
  rotate_left
  · have hl' : ((xs.length : Int) != (D.length : Int)) = true := by simp; omega
    have HF := Lib.hid (show fitsB D xs = false by rw [HD.out, decide_eq_false (fun q => hl q.2), Bool.and_false, Bool.false_and])
    clear hs h hx h6
    go_enter Try.func91, Try.ntmps91
    go_wp2_with fail
    refine (HC.out).mono ?_
    rintro e w1 ⟨rfl, m1, rfl⟩
    go_wp2
    go_ret
    exact ⟨ret_bool HF.out.symm, _, by first | rfl | exact drewN_add _ _ _⟩
  · obtain ⟨⟨hn1, -⟩, hsq, hcells⟩ := farB_parts (spB_far hs)
    have HFIN := Lib.hid (show fitsB D xs = (pfI D xs && pfA D xs) by rw [HD.out, hs, decide_eq_true ⟨by omega, hl⟩]; rfl)
    obtain ⟨bk, o, rc, rb, ro, hA, hrow, hlen, hcell, -⟩ := h.square hsq
    obtain rfl := hA (by omega)
    obtain ⟨-, -, b2, o2, hB, hc2⟩ := hx
    obtain rfl := hB (by omega)
    rw [hl] at hc2
    have HROW := Lib.hid hrow
    have HLEN := Lib.hid hlen
    have HCE := Lib.hid hcell
    have HBD := Lib.hid hcells
    have HX := Lib.hid hc2
    have HPI := Lib.hid (show pfI D xs = allR (fun k => inB (ix xs k) 1 60) D.length 0 from rfl)
    have HPA := Lib.hid (show pfA D xs = allR (fun k => allR (fun j => pfC D xs k j) D.length 0) D.length 0 from rfl)
    have HW := Lib.hid (fun k j => show pfC D xs k j = (decide (ix xs k - ix xs j ≤ at2 D k j) && (decide (k = j) || decide (at2 D k j ≤ ix xs k + ix xs j))) from rfl)
    have hl' : ((D.length : Int) != (D.length : Int)) = false := by simp
    have HSi := Lib.hid (fun g k => show allR (fun k => inB (ix xs k) 1 60) (g + 1) k = (inB (ix xs k) 1 60 && allR (fun k => inB (ix xs k) 1 60) g (k + 1)) from rfl)
    have HSj := Lib.hid (fun g k j => show allR (fun j => pfC D xs k j) (g + 1) j = (pfC D xs k j && allR (fun j => pfC D xs k j) g (j + 1)) from rfl)
    have HSk := Lib.hid (fun g k => show allR (fun k => allR (fun j => pfC D xs k j) D.length 0) (g + 1) k = (allR (fun j => pfC D xs k j) D.length 0 && allR (fun k => allR (fun j => pfC D xs k j) D.length 0) g (k + 1)) from rfl)
    have HALL := Lib.hid (allR_all (fun k => inB (ix xs k) 1 60) D.length)
    obtain ⟨n, hn⟩ : ∃ n, xs.length = n := ⟨_, rfl⟩
    rw [hn] at hl hlx
    rw [hn]
    subst hl
    clear hs h hsq hcells hrow hlen hcell hA hB hc2 hn h6
    go_enter Try.func91, Try.ntmps91
    go_wp2_with fail
    refine (HC.out).mono ?_
    rintro e w1 ⟨rfl, m1, rfl⟩
    go_wp2
    go_loopg [28] (D.length) (fun g s28 wr => ∃ (i m : Nat), i + g = D.length ∧ s28 = .int .i64 i ∧ wr = w.drewN m ∧ Hid (allR (fun k => inB (ix xs k) 1 60) g i = pfI D xs))
    case atStart => exact ⟨0, _, by omega, rfl, by first | rfl | exact drewN_0 _ | exact drewN_add _ _ _, Lib.hid (HPI.out.symm)⟩
    case round =>
      obtain ⟨i, mi, hi, rfl, rfl, Hi⟩ := hrel
      by_cases hini : i < D.length
      · obtain ⟨gi, rfl⟩ : ∃ g', gk = g' + 1 := ⟨gk - 1, by omega⟩
        have hini' : (i : Int) < (D.length : Nat) := by omega
        have x1 := HX.out i hini
        have HSt := Lib.hid (HSi.out gi i)
        have HII := Lib.hid (inB_iff (n := ix xs i) (lo := 1) (hi := 60))
        obtain ⟨X, hX⟩ : ∃ X, ix xs i = X := ⟨_, rfl⟩
        rw [hX] at x1 HSt HII
        clear hX
        by_cases q1 : X < 1
        · have HF := Lib.hid (show fitsB D xs = false by
            rw [HFIN.out, ← Hi.out, HSt.out, show inB X 1 60 = false from Bool.eq_false_iff.2 fun q => by have := HII.out.1 q; omega]; rfl)
          go_wp2
          go_ret
          exact ⟨ret_bool HF.out.symm, _, by first | rfl | exact drewN_add _ _ _⟩
        · by_cases q2 : 60 < X
          · have HF := Lib.hid (show fitsB D xs = false by
              rw [HFIN.out, ← Hi.out, HSt.out, show inB X 1 60 = false from Bool.eq_false_iff.2 fun q => by have := HII.out.1 q; omega]; rfl)
            go_wp2
            go_ret
            exact ⟨ret_bool HF.out.symm, _, by first | rfl | exact drewN_add _ _ _⟩
          · have HG := Lib.hid (HII.out.2 ⟨by omega, by omega⟩)
            go_wp2
            go_roundg gi
            case measure => omega
            case rel => exact ⟨i + 1, _, by omega, by go_num, by first | rfl | exact drewN_0 _ | exact drewN_add _ _ _, Lib.hid (by rw [← Hi.out, HSt.out, HG.out, Bool.true_and])⟩
      · have hini' : ¬ (i : Int) < (D.length : Nat) := by omega
        obtain rfl : gk = 0 := by omega
        have HIT := Lib.hid (show pfI D xs = true by rw [← Hi.out]; rfl)
        have HIN := Lib.hid (fun k (hk : k < D.length) => inB_iff.1 (HALL.out.1 (HPI.out.symm.trans HIT.out) k hk))
        have HF2 := Lib.hid (show fitsB D xs = pfA D xs by rw [HFIN.out, HIT.out, Bool.true_and])
        clear Hi HSi HFIN HALL
        go_wp2
        go_loopg [41] (D.length) (fun g s41 wr => ∃ (k m : Nat), k + g = D.length ∧ s41 = .int .i64 k ∧ wr = w.drewN m ∧ Hid (allR (fun k => allR (fun j => pfC D xs k j) D.length 0) g k = pfA D xs))
        case atStart => exact ⟨0, _, by omega, rfl, by first | rfl | exact drewN_0 _ | exact drewN_add _ _ _, Lib.hid (HPA.out.symm)⟩
        case round =>
          obtain ⟨k, mk, hk, rfl, rfl, Hk⟩ := hrel
          by_cases hink : k < D.length
          · obtain ⟨gk, rfl⟩ : ∃ g', gk = g' + 1 := ⟨gk - 1, by omega⟩
            have hink' : (k : Int) < (D.length : Nat) := by omega
            have x1 := HX.out k hink
            obtain ⟨a0, a1⟩ := HIN.out k hink
            have HWk0 := Lib.hid (HW.out k)
            obtain ⟨X, hX⟩ : ∃ X, ix xs k = X := ⟨_, rfl⟩
            rw [hX] at x1 a0 a1 HWk0
            clear hX
            go_wp2
            go_loopg [48] (D.length) (fun g s48 wr => ∃ (j m : Nat), j + g = D.length ∧ s48 = .int .i64 j ∧ wr = w.drewN m ∧ Hid (allR (fun j => pfC D xs k j) g j = allR (fun j => pfC D xs k j) D.length 0))
            case atStart => exact ⟨0, _, by omega, rfl, by first | rfl | exact drewN_0 _ | exact drewN_add _ _ _, Lib.hid (rfl)⟩
            case round =>
              obtain ⟨j, mj, hj, rfl, rfl, Hj⟩ := hrel
              by_cases hinj : j < D.length
              · obtain ⟨gj, rfl⟩ : ∃ g', gk = g' + 1 := ⟨gk - 1, by omega⟩
                have hinj' : (j : Int) < (D.length : Nat) := by omega
                have r1 := HROW.out k hink
                have hl1 := (HLEN.out k hink).1
                have c1 := HCE.out k hink j hinj
                obtain ⟨p1, p2, -, -⟩ := HBD.out k hink j hinj
                have x2 := HX.out j hinj
                obtain ⟨b0, b1⟩ := HIN.out j hinj
                have HWk := Lib.hid (HWk0.out j)
                have HSt := Lib.hid (HSj.out gj k j)
                obtain ⟨Y, hY⟩ : ∃ Y, ix xs j = Y := ⟨_, rfl⟩
                obtain ⟨Z, hZ⟩ : ∃ Z, at2 D k j = Z := ⟨_, rfl⟩
                rw [hY] at x2 HWk b0 b1
                rw [hZ] at c1 HWk p1 p2
                clear hY hZ
                have HBAD := Lib.hid (fun (q : pfC D xs k j = false) => show fitsB D xs = false by rw [HF2.out, ← Hk.out, HSk.out, ← Hj.out, HSt.out, q, Bool.false_and, Bool.false_and])
                have HGOOD := Lib.hid (fun (q : pfC D xs k j = true) => show allR (fun j => pfC D xs k j) gj (j + 1) = allR (fun j => pfC D xs k j) D.length 0 by rw [← Hj.out, HSt.out, q, Bool.true_and])
                by_cases h1 : Z < X - Y
                · have HF := Lib.hid (HBAD.out (by rw [HWk.out, decide_eq_false (show ¬ X - Y ≤ Z by omega)]; rfl))
                  go_wp2
                  go_ret
                  exact ⟨ret_bool HF.out.symm, _, by first | rfl | exact drewN_add _ _ _⟩
                · rw [decide_eq_true (show X - Y ≤ Z by omega), Bool.true_and] at HWk
                  by_cases hkj : k = j
                  · have hkj' : ((k : Int) != (j : Int)) = false := by simp; omega
                    have HG := Lib.hid (HGOOD.out (by rw [HWk.out, decide_eq_true hkj]; rfl))
                    clear hkj
                    go_wp2
                    go_roundg gj
                    case measure => omega
                    case rel => exact ⟨j + 1, _, by omega, by go_num, by first | rfl | exact drewN_0 _ | exact drewN_add _ _ _, Lib.hid (by exact HG.out)⟩
                  · have hkj' : ((k : Int) != (j : Int)) = true := by simp; omega
                    rw [decide_eq_false hkj, Bool.false_or] at HWk
                    clear hkj
                    by_cases h2 : X + Y < Z
                    · have HF := Lib.hid (HBAD.out (by rw [HWk.out, decide_eq_false (by omega)]))
                      go_wp2
                      go_ret
                      exact ⟨ret_bool HF.out.symm, _, by first | rfl | exact drewN_add _ _ _⟩
                    · have HG := Lib.hid (HGOOD.out (by rw [HWk.out, decide_eq_true (by omega)]))
                      go_wp2
                      go_roundg gj
                      case measure => omega
                      case rel => exact ⟨j + 1, _, by omega, by go_num, by first | rfl | exact drewN_0 _ | exact drewN_add _ _ _, Lib.hid (by exact HG.out)⟩
              · have hinj' : ¬ (j : Int) < (D.length : Nat) := by omega
                obtain rfl : gk = 0 := by omega
                have HT := Lib.hid (show allR (fun j => pfC D xs k j) D.length 0 = true by rw [← Hj.out]; rfl)
                go_wp2
                go_roundg gk
                case measure => omega
                case rel => exact ⟨k + 1, _, by omega, by go_num, by first | rfl | exact drewN_0 _ | exact drewN_add _ _ _, Lib.hid (by rw [← Hk.out, HSk.out, HT.out, Bool.true_and])⟩
          · have hink' : ¬ (k : Int) < (D.length : Nat) := by omega
            obtain rfl : gk = 0 := by omega
            go_wp2
            go_ret
            exact ⟨ret_bool (by rw [HF2.out, ← Hk.out]; rfl), _, by first | rfl | exact drewN_add _ _ _⟩
end Go.Proofs.Ytbkefojepelggaa
