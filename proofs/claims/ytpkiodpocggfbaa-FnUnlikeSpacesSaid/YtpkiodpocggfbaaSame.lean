/- What is proved: impl.SameSpace tells whether an order makes the second of two spaces of the first. No condition. -/
import Derived.Test.YtpkiodpocggfbaaOrdD
namespace Go.Proofs.Ytpkiodpocggfbaa
open Go.RowKit
noncomputable def sameV (D E : List (List Int)) : Bool := open Classical in decide (spB D = true ∧ spB E = true ∧ D.length = E.length ∧ D.length ≤ 5 ∧ ∃ i, i < (ordK D.length D.length).length ∧ ordD D (row (ordK D.length D.length) i) = E)
def TupB (w : World) (b : Bool) (e : Ending) (w' : World) : Prop := (∃ v, e = .returned (.tuple #[v, .bool b])) ∧ Ext w w'
theorem sameV_no {D E : List (List Int)} (h : ¬ (spB D = true ∧ spB E = true ∧ D.length = E.length ∧ D.length ≤ 5 ∧ ∃ i, i < (ordK D.length D.length).length ∧ ordD D (row (ordK D.length D.length) i) = E)) : sameV D E = false := by
  classical
  unfold sameV
  exact decide_eq_false h
theorem sameV_yes {D E : List (List Int)} (h : spB D = true ∧ spB E = true ∧ D.length = E.length ∧ D.length ≤ 5 ∧ ∃ i, i < (ordK D.length D.length).length ∧ ordD D (row (ordK D.length D.length) i) = E) : sameV D E = true := by
  classical
  unfold sameV
  exact decide_eq_true h
set_option maxRecDepth 100000 in
set_option maxHeartbeats 4000000 in
theorem iSameSpace_any (A : Option Addr) (ca : Nat) (D : List (List Int)) (B : Option Addr) (cb : Nat) (E : List (List Int)) (w : World) (hD : Mat w A ca D) (hE : Mat w B cb E) :
    Calls Try.prog 8 #[.slice A D.length ca, .slice B E.length cb] w (TupB w (sameV D E)) := by
  have HMD := Lib.hid hD
  have HME := Lib.hid hE
  have HCD := Lib.hid (fun W (q : Mat W A ca D) => isSpace_any A ca D W q)
  have HCE := Lib.hid (fun W (q : Mat W B cb E) => isSpace_any B cb E W q)
  have hlD := hD.1
  have hmD := hD.2.1
  have hlE := hE.1
  have hmE := hE.2.1
  unfold maxLen at hmD hmE
  cases hs : spB D with
  | false =>
    have HF := Lib.hid (sameV_no (D := D) (E := E) fun q => absurd (hs.symm.trans q.1) (by decide))
    rw [hs] at HCD
    clear hs hD hE
    go_enter Try.func8, Try.ntmps8
    go_wp2_with fail
    refine (HCD.out _ (HMD.out.ext (by repeat (first | exact Ext.refl _ | assumption | apply Ext.drewN' | apply Ext.alloc' | refine Ext.trans ?_ (by assumption))))).mono ?_
    rintro e w1 ⟨rfl, m1, rfl⟩
    go_wp2
    go_ret2
    rw [HF.out]
    exact ⟨⟨_, rfl⟩, (by repeat (first | exact Ext.refl _ | assumption | apply Ext.drewN' | apply Ext.alloc' | refine Ext.trans ?_ (by assumption)))⟩
  | true =>
  cases ht : spB E with
  | false =>
    have HF := Lib.hid (sameV_no (D := D) (E := E) fun q => absurd (ht.symm.trans q.2.1) (by decide))
    rw [hs] at HCD
    rw [ht] at HCE
    clear hs ht hD hE
    go_enter Try.func8, Try.ntmps8
    go_wp2_with fail
    refine (HCD.out _ (HMD.out.ext (by repeat (first | exact Ext.refl _ | assumption | apply Ext.drewN' | apply Ext.alloc' | refine Ext.trans ?_ (by assumption))))).mono ?_
    rintro e w1 ⟨rfl, m1, rfl⟩
    go_wp2_with fail
    refine (HCE.out _ (HME.out.ext (by repeat (first | exact Ext.refl _ | assumption | apply Ext.drewN' | apply Ext.alloc' | refine Ext.trans ?_ (by assumption))))).mono ?_
    rintro e w2 ⟨rfl, m2, rfl⟩
    go_wp2
    go_ret2
    rw [HF.out]
    exact ⟨⟨_, rfl⟩, (by repeat (first | exact Ext.refl _ | assumption | apply Ext.drewN' | apply Ext.alloc' | refine Ext.trans ?_ (by assumption)))⟩
  | true =>
  by_cases hn : D.length = E.length
  rotate_left
  · have HF := Lib.hid (sameV_no (D := D) (E := E) fun q => hn q.2.2.1)
    have hn' : ¬ (D.length : Int) = (E.length : Nat) := by omega
    have hn2 : ((D.length : Int) == (E.length : Nat)) = false := beq_eq_false_iff_ne.2 hn'
    rw [hs] at HCD
    rw [ht] at HCE
    clear hs ht hD hE
    go_enter Try.func8, Try.ntmps8
    go_wp2_with fail
    refine (HCD.out _ (HMD.out.ext (by repeat (first | exact Ext.refl _ | assumption | apply Ext.drewN' | apply Ext.alloc' | refine Ext.trans ?_ (by assumption))))).mono ?_
    rintro e w1 ⟨rfl, m1, rfl⟩
    go_wp2_with fail
    refine (HCE.out _ (HME.out.ext (by repeat (first | exact Ext.refl _ | assumption | apply Ext.drewN' | apply Ext.alloc' | refine Ext.trans ?_ (by assumption))))).mono ?_
    rintro e w2 ⟨rfl, m2, rfl⟩
    go_wp2
    go_ret2
    rw [HF.out]
    exact ⟨⟨_, rfl⟩, (by repeat (first | exact Ext.refl _ | assumption | apply Ext.drewN' | apply Ext.alloc' | refine Ext.trans ?_ (by assumption)))⟩
  by_cases h5 : D.length ≤ 5
  rotate_left
  · have HF := Lib.hid (sameV_no (D := D) (E := E) fun q => h5 q.2.2.2.1)
    have h5' : (5 : Int) < (E.length : Nat) := by omega
    rw [hs] at HCD
    rw [ht] at HCE
    have HQ := Lib.hid hn
    rw [hn] at HCD hlD
    rw [hn]
    clear hs ht hD hE hn h5
    go_enter Try.func8, Try.ntmps8
    go_wp2_with fail
    refine (HCD.out _ (HMD.out.ext (by repeat (first | exact Ext.refl _ | assumption | apply Ext.drewN' | apply Ext.alloc' | refine Ext.trans ?_ (by assumption))))).mono ?_
    rintro e w1 ⟨rfl, m1, rfl⟩
    go_wp2_with fail
    refine (HCE.out _ (HME.out.ext (by repeat (first | exact Ext.refl _ | assumption | apply Ext.drewN' | apply Ext.alloc' | refine Ext.trans ?_ (by assumption))))).mono ?_
    rintro e w2 ⟨rfl, m2, rfl⟩
    go_wp2
    go_ret2
    rw [HF.out]
    exact ⟨⟨_, rfl⟩, (by repeat (first | exact Ext.refl _ | assumption | apply Ext.drewN' | apply Ext.alloc' | refine Ext.trans ?_ (by assumption)))⟩
  · have hf := spB_far hs
    obtain ⟨n, hnn⟩ : ∃ n, D.length = n := ⟨_, rfl⟩
    have n1 := (spB_len hs).1
    have HY := Lib.hid (fun q => sameV_yes (D := D) (E := E) ⟨hs, ht, hn, h5, q⟩)
    have HNo := Lib.hid (fun (q : ¬ ∃ i, i < (ordK D.length D.length).length ∧ ordD D (row (ordK D.length D.length) i) = E) => sameV_no (D := D) (E := E) fun r => q r.2.2.2.2)
    rw [hnn] at HY HNo
    have HOF := Lib.hid (fun W => ordersOf_any n W (by omega))
    obtain ⟨f1, f2, f3⟩ := ordK_facts n n (by omega) (Nat.le_refl _)
    obtain ⟨L, hL⟩ : ∃ L, ordK n n = L := ⟨_, rfl⟩
    rw [hL] at HY HNo HOF f1 f2 f3
    have HOR := Lib.hid (fun i (hi : i < L.length) Bo co W (q1 : Mat W A ca D) (q2 : Ints W Bo co (row L i)) => ordered_any A ca D Bo co (row L i) W q1 q2 hf (by rw [(f3 i hi).1]; omega) (fun j hj => by rw [hnn]; exact (f3 i hi).2 j (by rw [(f3 i hi).1] at hj; exact hj)))
    have HLn := Lib.hid (fun i (hi : i < L.length) => (f3 i hi).1)
    have HOL := Lib.hid (fun i (hi : i < L.length) => show (ordD D (row L i)).length = n by rw [ordD_len, (f3 i hi).1])
    have hnE : E.length = n := by omega
    have HNE := Lib.hid hnE
    rw [hs] at HCD
    rw [ht] at HCE
    rw [hnn] at HCD hlD HOR h5
    rw [hnE] at HCE hlE
    rw [hnn, hnE]
    clear hs ht hD hE hn hnn hf f3 hnE hL
    obtain ⟨M, hM⟩ : ∃ M, L.length = M := ⟨_, rfl⟩
    have h5' : ¬ (5 : Int) < (n : Nat) := by omega
    have HML := Lib.hid hM
    rw [hM] at HY HNo HOR HLn HOL f1 f2
    clear hM
    go_enter Try.func8, Try.ntmps8
    go_wp2_with fail
    refine (HCD.out _ (HMD.out.ext (by repeat (first | exact Ext.refl _ | assumption | apply Ext.drewN' | apply Ext.alloc' | refine Ext.trans ?_ (by assumption))))).mono ?_
    rintro e w1 ⟨rfl, m1, rfl⟩
    go_wp2_with fail
    refine (HCE.out _ (HME.out.ext (by repeat (first | exact Ext.refl _ | assumption | apply Ext.drewN' | apply Ext.alloc' | refine Ext.trans ?_ (by assumption))))).mono ?_
    rintro e w2 ⟨rfl, m2, rfl⟩
    go_wp2_with fail
    refine (HOF.out _).mono ?_
    rintro e w3 ⟨Ao, co, Vo, rfl, hLo, -, -, hx3⟩
    have hMo := hLo.mat
    obtain ⟨p1, p2, -⟩ := id hMo
    obtain ⟨b, o, R, rc, -, -, hA, hrow, -, -, -, hints⟩ := hMo.parts
    unfold maxLen at p2
    obtain rfl := hA (by rw [HML.out]; omega)
    rw [HML.out] at hrow hints p1
    rw [HML.out]
    have HROW := Lib.hid hrow
    have HINT := Lib.hid hints
    have HX3 := Lib.hid (show Ext w w3 from Ext.trans (by repeat (first | exact Ext.refl _ | assumption | apply Ext.drewN' | apply Ext.alloc' | refine Ext.trans ?_ (by assumption))) hx3)
    clear hrow hints hA hLo hMo hx3
    go_wp2
    go_loopg [32] M (fun g s32 wr => ∃ (k : Nat), k + g = M ∧ s32 = .int .i64 k ∧ Hid (Ext w3 wr ∧ ∀ j, j < k → ordD D (row L j) ≠ E))
    case atStart => exact ⟨0, by omega, rfl, Lib.hid ⟨Ext.refl _, fun j hj => absurd hj (by omega)⟩⟩
    case round =>
      obtain ⟨k, hk, rfl, HR⟩ := hrel
      have hxr := HR.out.1
      by_cases hin : k < M
      · obtain ⟨gk1, rfl⟩ : ∃ g', gk = g' + 1 := ⟨gk - 1, by omega⟩
        have hin' : (k : Int) < (M : Nat) := by omega
        have c1 := hxr.cell (HROW.out k hin)
        have HIk := Lib.hid ((HINT.out k hin).ext hxr)
        have HDk := Lib.hid (HOR.out k hin (R k) (rc k) wr (HMD.out.ext (HX3.out.trans hxr)) HIk.out)
        have HEk := Lib.hid (HME.out.ext (HX3.out.trans hxr))
        have hlk := HLn.out k hin
        have HLL := Lib.hid (HOL.out k hin)
        rw [hlk] at c1 HDk
        clear hlk HIk
        obtain ⟨X, hX⟩ : ∃ X, ordD D (row L k) = X := ⟨_, rfl⟩
        rw [hX] at HDk HLL
        have HXX := Lib.hid hX
        clear hX
        have HZ := Lib.hid (fun Ax cx W (q1 : Mat W Ax cx X) (q2 : Mat W B cb E) => compareRows_any Ax B cx cb X E W q1 q2)
        have HZ0 := Lib.hid (cmpM_zero (D := X) (E := E))
        obtain ⟨Z, hZ⟩ : ∃ Z, cmpM X E = Z := ⟨_, rfl⟩
        rw [hZ] at HZ HZ0
        rw [HNE.out] at HZ
        clear hZ
        go_wp2_with fail
        refine HDk.out.mono ?_
        rintro e w4 ⟨Ax, cx, Vx, rfl, hLx, -, -, hx4⟩
        have HZ1 := Lib.hid (HZ.out Ax cx w4 hLx.mat (HEk.out.ext hx4))
        clear hLx
        go_wp2_with fail
        refine HZ1.out.mono ?_
        rintro e w5 ⟨rfl, m5, rfl⟩
        have hx5 : Ext w3 (w4.drewN m5) := (hxr.trans hx4).drewN' _
        by_cases hz : Z = 0
        · have HF := Lib.hid (HY.out ⟨k, hin, by rw [HXX.out]; exact HZ0.out.1 hz⟩)
          go_wp2
          go_ret2
          rw [HF.out]
          exact ⟨⟨_, rfl⟩, HX3.out.trans hx5⟩
        · go_wp2
          go_roundg gk1
          case measure => omega
          case rel => exact ⟨k + 1, by omega, by go_num, Lib.hid ⟨by first | exact hx5 | exact hx5.drewN' _, fun j hj => by
            by_cases q : j = k
            · subst q; rw [HXX.out]; exact fun q => hz (HZ0.out.2 q)
            · exact HR.out.2 j (by omega)⟩⟩
      · have hin' : ¬ (k : Int) < (M : Nat) := by omega
        obtain rfl : gk = 0 := by omega
        obtain rfl : k = M := by omega
        have HF := Lib.hid (HNo.out fun ⟨i, hi, e⟩ => HR.out.2 i hi e)
        go_wp2
        go_ret2
        rw [HF.out]
        exact ⟨⟨_, rfl⟩, HX3.out.trans hxr⟩
end Go.Proofs.Ytpkiodpocggfbaa
