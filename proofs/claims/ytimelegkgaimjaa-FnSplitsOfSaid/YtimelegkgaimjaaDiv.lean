/- What is proved: spec.l10Divided, impl.dividedAt, DividedAt of both: by how much the lots divide two points. Conditions: those of each contract. -/
import Derived.Test.YtimelegkgaimjaaSpl2
import Derived.Test.YtimelegkgaimjaaQx
namespace Go.Proofs.Ytimelegkgaimjaa
open Go.RowKit

/-- rows of a lot and what it isolates -/
def Two (R : List (List Int)) : Prop := R.length ≤ 32 ∧ ∀ i, i < R.length → (row R i).length = 2 ∧ 1 ≤ at2 R i 0 ∧ at2 R i 0 ≤ 31 ∧ 1 ≤ at2 R i 1 ∧ at2 R i 1 ≤ 240
theorem two_cells {w : World} {A : Option Addr} {c : Nat} {R : List (List Int)} (h : Mat w A c R) (h2 : Two R) :
    ∃ (b o : Nat) (rc rb ro : Nat → Nat), (0 < R.length → A = some ⟨b, o, none⟩) ∧
      (∀ i, i < R.length → w.cell? ⟨b, o + i, none⟩ = some (.slice (some ⟨rb i, ro i, none⟩) 2 (rc i))) ∧
      (∀ i, i < R.length → w.cell? ⟨rb i, ro i, none⟩ = some (.int .i64 (at2 R i 0)) ∧ w.cell? ⟨rb i, ro i + 1, none⟩ = some (.int .i64 (at2 R i 1))) := by
  obtain ⟨b, o, Q, rc, rb, ro, hA, k1, -, k3, k4, -⟩ := h.parts
  refine ⟨b, o, rc, rb, ro, hA, fun i hi => ?_, fun i hi => ⟨?_, ?_⟩⟩
  · have e := (h2.2 i hi).1
    rw [k1 i hi, k3 i hi (by omega), e]
  · have e := (h2.2 i hi).1
    have := k4 i hi 0 (by omega)
    rwa [Nat.add_zero] at this
  · have e := (h2.2 i hi).1
    exact k4 i hi 1 (by omega)
def divS (R : List (List Int)) (a b : Nat) : Nat → Nat → Int → Int := itR (fun i s => if bitI (at2 R i 0) a = bitI (at2 R i 0) b then s else s + at2 R i 1)
def divL (R : List (List Int)) (a b : Nat) : Int := divS R a b R.length 0 0
theorem divS_eq {R : List (List Int)} {a b g i : Nat} {s l : Int} (e : at2 R i 0 = l) (h : bitI l a = bitI l b) : divS R a b (g + 1) i s = divS R a b g (i + 1) s := by
  unfold divS; rw [itR]; congr 1; subst e; exact if_pos h
theorem divS_ne {R : List (List Int)} {a b g i : Nat} {s l v : Int} (e : at2 R i 0 = l) (ev : at2 R i 1 = v) (h : ¬ bitI l a = bitI l b) : divS R a b (g + 1) i s = divS R a b g (i + 1) (s + v) := by
  unfold divS; rw [itR]; congr 1; subst e ev; exact if_neg h
theorem divL_bd {R : List (List Int)} (h2 : Two R) (a b : Nat) : 0 ≤ divL R a b ∧ divL R a b ≤ 7680 := by
  have := itR_inv (f := fun i s => if bitI (at2 R i 0) a = bitI (at2 R i 0) b then s else s + at2 R i 1) (fun j (s : Int) => 0 ≤ s ∧ s ≤ 240 * j) R.length 0 0 ⟨by omega, by omega⟩ (fun j s _ hj h => by
    obtain ⟨-, -, -, b1, b2⟩ := h2.2 j (by omega)
    by_cases q : bitI (at2 R j 0) a = bitI (at2 R j 0) b
    · simp only [if_pos q]; omega
    · simp only [if_neg q]; omega)
  have h32 := h2.1
  unfold divL divS
  omega
theorem splD_two {D : List (List Int)} (hs : spB D = true) : Two (splD D) := splD_rows hs

set_option maxRecDepth 100000 in
set_option maxHeartbeats 4000000 in
theorem l10Divided_any (A : Option Addr) (cp : Nat) (R : List (List Int)) (a b : Nat) (w : World) (h : Mat w A cp R) (h2 : Two R) (ha : a < 64) (hb : b < 64) :
    Calls Try.prog 55 #[.slice A R.length cp, .int .i64 a, .int .i64 b] w fun e w' => e = .returned (.int .i64 (divL R a b)) ∧ ∃ m, w' = w.drewN m := by
  obtain ⟨bk, o, rc, rb, ro, hA, hrow, hcell⟩ := two_cells h h2
  have h32 := h2.1
  have HR := Lib.hid hrow
  have HCE := Lib.hid hcell
  have H2 := Lib.hid h2
  have HA := Lib.hid hA
  clear hrow hcell h h2 hA
  go_enter Try.func55, Try.ntmps55
  go_wp2
  go_loopg [8, 7] (R.length) (fun g s8 s7 wr => ∃ (i m : Nat) (s : Int), i + g = R.length ∧ s8 = .int .i64 i ∧ s7 = .int .i64 s ∧ wr = w.drewN m ∧ 0 ≤ s ∧ s ≤ 240 * i ∧ Hid (divS R a b g i s = divL R a b))
  case atStart => exact ⟨0, _, _, by omega, rfl, rfl, by first | rfl | exact drewN_0 _ | exact drewN_add _ _ _, by omega, by omega, Lib.hid (rfl)⟩
  case round =>
    obtain ⟨i, mi, s, hi, rfl, rfl, rfl, hs, hs', Hi⟩ := hrel
    by_cases hini : i < R.length
    · obtain ⟨gi, rfl⟩ : ∃ g', gk = g' + 1 := ⟨gk - 1, by omega⟩
      have hini' : (i : Int) < (R.length : Nat) := by omega
      obtain rfl := HA.out (by omega)
      have r1 := HR.out i hini
      obtain ⟨c0, c1⟩ := HCE.out i hini
      obtain ⟨-, l1, l2, v1, v2⟩ := H2.out.2 i hini
      obtain ⟨l, hl⟩ : ∃ l, at2 R i 0 = l := ⟨_, rfl⟩
      obtain ⟨v, hv⟩ : ∃ v, at2 R i 1 = v := ⟨_, rfl⟩
      rw [hl] at c0 l1 l2
      rw [hv] at c1 v1 v2
      have Hl := Lib.hid hl
      have Hv := Lib.hid hv
      clear hl hv
      have B1 := bitI_tmod l a (by omega)
      have B2 := bitI_tmod l b (by omega)
      rcases bitI_01 l a with q1 | q1 <;> rcases bitI_01 l b with q2 | q2 <;> rw [q1] at B1 <;> rw [q2] at B2
      · have HE := Lib.hid (divS_eq (g := gi) (s := s) Hl.out (q1.trans q2.symm))
        clear q1 q2
        go_wp2
        go_quiet (fail)
        go_wp2
        go_roundg gi
        case measure => omega
        case rel => exact ⟨i + 1, _, s, by omega, by go_num, by first | rfl | go_num, by first | rfl | exact drewN_0 _ | exact drewN_add _ _ _, by omega, by omega, Lib.hid (by rw [← HE.out, Hi.out])⟩
      · have HE := Lib.hid (divS_ne (g := gi) (s := s) Hl.out Hv.out (fun k => absurd (q1.symm.trans (k.trans q2)) (by decide)))
        clear q1 q2
        go_wp2
        go_quiet (fail)
        go_wp2
        go_roundg gi
        case measure => omega
        case rel => exact ⟨i + 1, _, s + v, by omega, by go_num, by first | rfl | go_num, by first | rfl | exact drewN_0 _ | exact drewN_add _ _ _, by omega, by omega, Lib.hid (by rw [← HE.out, Hi.out])⟩
      · have HE := Lib.hid (divS_ne (g := gi) (s := s) Hl.out Hv.out (fun k => absurd (q1.symm.trans (k.trans q2)) (by decide)))
        clear q1 q2
        go_wp2
        go_quiet (fail)
        go_wp2
        go_roundg gi
        case measure => omega
        case rel => exact ⟨i + 1, _, s + v, by omega, by go_num, by first | rfl | go_num, by first | rfl | exact drewN_0 _ | exact drewN_add _ _ _, by omega, by omega, Lib.hid (by rw [← HE.out, Hi.out])⟩
      · have HE := Lib.hid (divS_eq (g := gi) (s := s) Hl.out (q1.trans q2.symm))
        clear q1 q2
        go_wp2
        go_quiet (fail)
        go_wp2
        go_roundg gi
        case measure => omega
        case rel => exact ⟨i + 1, _, s, by omega, by go_num, by first | rfl | go_num, by first | rfl | exact drewN_0 _ | exact drewN_add _ _ _, by omega, by omega, Lib.hid (by rw [← HE.out, Hi.out])⟩
    · have hini' : ¬ (i : Int) < (R.length : Nat) := by omega
      obtain rfl : gk = 0 := by omega
      go_wp2
      go_ret
      exact ⟨ret_int (by rw [← Hi.out]; rfl), _, by first | rfl | exact drewN_add _ _ _⟩

set_option maxRecDepth 100000 in
set_option maxHeartbeats 4000000 in
theorem dividedAt_any (A : Option Addr) (cp : Nat) (D : List (List Int)) (a b : Nat) (w : World) (h : Mat w A cp D) (hsp : spB D = true) (ha : a < D.length) (hb : b < D.length) :
    Calls Try.prog 54 #[.slice A D.length cp, .int .i64 a, .int .i64 b] w fun e w' => e = .returned (.int .i64 (divL (splD D) a b)) ∧ Ext w w' := by
  have hn6 := (spB_len hsp).2
  have HM := Lib.hid h
  have HC := Lib.hid (fun W (k : Mat W A cp D) => splitsOf_any A cp D W k hsp)
  obtain ⟨R, hR⟩ : ∃ R, splD D = R := ⟨_, rfl⟩
  have h2 := splD_two hsp
  rw [hR] at HC h2
  rw [hR]
  clear h hR hsp
  go_enter Try.func54, Try.ntmps54
  go_wp2_with fail
  refine (HC.out _ (HM.out.ext (by repeat (first | exact Ext.refl _ | assumption | apply Ext.drewN' | apply Ext.alloc' | refine Ext.trans ?_ (by assumption))))).mono ?_
  rintro e w1 ⟨A1, c1, V1, rfl, hL, -, -, hx1⟩
  obtain ⟨bk, o, rc, rb, ro, hA, hrow, hcell⟩ := two_cells hL.mat h2
  have h32 := h2.1
  have HR := Lib.hid hrow
  have HCE := Lib.hid hcell
  have H2 := Lib.hid h2
  have HA := Lib.hid hA
  have Hx1 := Lib.hid (show Ext w w1 from (by repeat (first | exact Ext.refl _ | assumption | apply Ext.drewN' | apply Ext.alloc' | refine Ext.trans ?_ (by assumption))))
  clear hrow hcell h2 hA hL hx1
  go_wp2
  go_loopg [13, 7] (R.length) (fun g s13 s7 wr => ∃ (i m : Nat) (s : Int), i + g = R.length ∧ s13 = .int .i64 i ∧ s7 = .int .i64 s ∧ wr = w1.drewN m ∧ 0 ≤ s ∧ s ≤ 240 * i ∧ Hid (divS R a b g i s = divL R a b))
  case atStart => exact ⟨0, _, _, by omega, rfl, rfl, by first | rfl | exact drewN_0 _ | exact drewN_add _ _ _, by omega, by omega, Lib.hid (rfl)⟩
  case round =>
    obtain ⟨i, mi, s, hi, rfl, rfl, rfl, hs, hs', Hi⟩ := hrel
    by_cases hini : i < R.length
    · obtain ⟨gi, rfl⟩ : ∃ g', gk = g' + 1 := ⟨gk - 1, by omega⟩
      have hini' : (i : Int) < (R.length : Nat) := by omega
      obtain rfl := HA.out (by omega)
      have r1 := HR.out i hini
      obtain ⟨c0, c1⟩ := HCE.out i hini
      obtain ⟨-, l1, l2, v1, v2⟩ := H2.out.2 i hini
      obtain ⟨l, hl⟩ : ∃ l, at2 R i 0 = l := ⟨_, rfl⟩
      obtain ⟨v, hv⟩ : ∃ v, at2 R i 1 = v := ⟨_, rfl⟩
      rw [hl] at c0 l1 l2
      rw [hv] at c1 v1 v2
      have Hl := Lib.hid hl
      have Hv := Lib.hid hv
      clear hl hv
      have B1 := bitI_and l a (by omega) (by omega)
      have B2 := bitI_and l b (by omega) (by omega)
      rcases bitI_01 l a with q1 | q1 <;> rcases bitI_01 l b with q2 | q2 <;> rw [q1] at B1 <;> rw [q2] at B2
      · have HE := Lib.hid (divS_eq (g := gi) (s := s) Hl.out (q1.trans q2.symm))
        clear q1 q2
        go_wp2
        go_quiet (fail)
        go_wp2
        go_roundg gi
        case measure => omega
        case rel => exact ⟨i + 1, _, s, by omega, by go_num, by first | rfl | go_num, by first | rfl | exact drewN_0 _ | exact drewN_add _ _ _, by omega, by omega, Lib.hid (by rw [← HE.out, Hi.out])⟩
      · have HE := Lib.hid (divS_ne (g := gi) (s := s) Hl.out Hv.out (fun k => absurd (q1.symm.trans (k.trans q2)) (by decide)))
        clear q1 q2
        go_wp2
        go_quiet (fail)
        go_wp2
        go_roundg gi
        case measure => omega
        case rel => exact ⟨i + 1, _, s + v, by omega, by go_num, by first | rfl | go_num, by first | rfl | exact drewN_0 _ | exact drewN_add _ _ _, by omega, by omega, Lib.hid (by rw [← HE.out, Hi.out])⟩
      · have HE := Lib.hid (divS_ne (g := gi) (s := s) Hl.out Hv.out (fun k => absurd (q1.symm.trans (k.trans q2)) (by decide)))
        clear q1 q2
        go_wp2
        go_quiet (fail)
        go_wp2
        go_roundg gi
        case measure => omega
        case rel => exact ⟨i + 1, _, s + v, by omega, by go_num, by first | rfl | go_num, by first | rfl | exact drewN_0 _ | exact drewN_add _ _ _, by omega, by omega, Lib.hid (by rw [← HE.out, Hi.out])⟩
      · have HE := Lib.hid (divS_eq (g := gi) (s := s) Hl.out (q1.trans q2.symm))
        clear q1 q2
        go_wp2
        go_quiet (fail)
        go_wp2
        go_roundg gi
        case measure => omega
        case rel => exact ⟨i + 1, _, s, by omega, by go_num, by first | rfl | go_num, by first | rfl | exact drewN_0 _ | exact drewN_add _ _ _, by omega, by omega, Lib.hid (by rw [← HE.out, Hi.out])⟩
    · have hini' : ¬ (i : Int) < (R.length : Nat) := by omega
      obtain rfl : gk = 0 := by omega
      go_wp2
      go_ret
      have hx := Hx1.out
      exact ⟨ret_int (by rw [← Hi.out]; rfl), (by repeat (first | exact Ext.refl _ | assumption | apply Ext.drewN' | apply Ext.alloc' | refine Ext.trans ?_ (by assumption)))⟩
end Go.Proofs.Ytimelegkgaimjaa
