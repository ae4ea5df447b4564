/- What is proved: impl.FirstOf and spec.FirstOf return the first of the orders of a space, in new memory; none for others. No condition. -/
import Derived.Test.YtbkefojepelggaaFirst
namespace Go.Proofs.Ytbkefojepelggaa
open Go.RowKit
def fofV (D : List (List Int)) : List (List Int) := if spB D = true ∧ D.length ≤ 5 then firV D else []
theorem ordD_sq (D : List (List Int)) (o : List Int) : Sq (ordD D o) := fun i hi => by
  rw [ordD_len] at hi ⊢
  rw [ordD_row hi]
  simp
set_option maxRecDepth 100000 in
set_option maxHeartbeats 4000000 in
theorem iFirstOf_any (A : Option Addr) (ca : Nat) (D : List (List Int)) (w : World) (hD : Mat w A ca D) :
    Calls Try.prog 83 #[.slice A D.length ca] w (FreshR w (fofV D)) := by
  have HMD := Lib.hid hD
  have HCD := Lib.hid (fun W (q : Mat W A ca D) => isSpace_any A ca D W q)
  have hlD := hD.1
  have hmD := hD.2.1
  unfold maxLen at hmD
  cases hs : spB D with
  | false =>
    have HF := Lib.hid (show fofV D = [] from if_neg fun q => absurd (hs.symm.trans q.1) (by decide))
    rw [hs] at HCD
    clear hs hD
    go_enter Try.func83, Try.ntmps83
    go_wp2_with fail
    refine (HCD.out _ (HMD.out.ext (by repeat (first | exact Ext.refl _ | assumption | apply Ext.drewN' | apply Ext.alloc' | refine Ext.trans ?_ (by assumption))))).mono ?_
    rintro e w1 ⟨rfl, m1, rfl⟩
    go_wp2
    go_ret
    rw [HF.out]
    exact ⟨_, rfl, AccR.nil (by repeat (first | exact Ext.refl _ | assumption | apply Ext.drewN' | apply Ext.alloc' | refine Ext.trans ?_ (by assumption)))⟩
  | true =>
  by_cases h5 : D.length ≤ 5
  rotate_left
  · have HF := Lib.hid (show fofV D = [] from if_neg fun q => h5 q.2)
    have h5' : (5 : Int) < (D.length : Nat) := by omega
    rw [hs] at HCD
    clear hs hD h5
    go_enter Try.func83, Try.ntmps83
    go_wp2_with fail
    refine (HCD.out _ (HMD.out.ext (by repeat (first | exact Ext.refl _ | assumption | apply Ext.drewN' | apply Ext.alloc' | refine Ext.trans ?_ (by assumption))))).mono ?_
    rintro e w1 ⟨rfl, m1, rfl⟩
    go_wp2
    go_ret
    rw [HF.out]
    exact ⟨_, rfl, AccR.nil (by repeat (first | exact Ext.refl _ | assumption | apply Ext.drewN' | apply Ext.alloc' | refine Ext.trans ?_ (by assumption)))⟩
  · have hf := spB_far hs
    obtain ⟨⟨n1, -⟩, hsq, -⟩ := farB_parts hf
    obtain ⟨n, hnn⟩ : ∃ n, D.length = n := ⟨_, rfl⟩
    have HF := Lib.hid (show fofV D = firV D from if_pos ⟨hs, h5⟩)
    have HD0 := Lib.hid (show firV D = fir1 D (ordK D.length D.length) (ordK D.length D.length).length 0 D from rfl)
    rw [hnn] at HD0
    have HOF := Lib.hid (fun W => ordersOf_any n W (by omega))
    have HCP := Lib.hid (fun W (q : Mat W A ca D) => copyRows_any A ca D W q (by omega) (fun i hi => by rw [hsq i hi]; omega))
    obtain ⟨f1, f2, f3⟩ := ordK_facts n n (by omega) (Nat.le_refl _)
    obtain ⟨L, hL⟩ : ∃ L, ordK n n = L := ⟨_, rfl⟩
    rw [hL] at HD0 HOF f1 f2 f3
    have HOR := Lib.hid (fun i (hi : i < L.length) Bo co W (q1 : Mat W A ca D) (q2 : Ints W Bo co (row L i)) => ordered_own A ca D Bo co (row L i) W q1 q2 hf (by rw [(f3 i hi).1]; omega) (fun j hj => by rw [hnn]; exact (f3 i hi).2 j (by rw [(f3 i hi).1] at hj; exact hj)))
    have HLn := Lib.hid (fun i (hi : i < L.length) => (f3 i hi).1)
    have HOL := Lib.hid (fun i (hi : i < L.length) => show (ordD D (row L i)).length = n by rw [ordD_len, (f3 i hi).1])
    have HF1 := Lib.hid (fun g i b => show fir1 D L (g + 1) i b = fir1 D L g (i + 1) (if cmpM (ordD D (row L i)) b < 0 then ordD D (row L i) else b) from rfl)
    rw [hs] at HCD
    rw [hnn] at HCD HCP hlD HOR h5
    rw [hnn]
    clear hs hD hf f3 hL hsq
    obtain ⟨M, hM⟩ : ∃ M, L.length = M := ⟨_, rfl⟩
    have h5' : ¬ (5 : Int) < (n : Nat) := by omega
    have HML := Lib.hid hM
    have HNN := Lib.hid hnn
    rw [hM] at HD0 HOR HLn HOL f1 f2
    clear hM hnn
    go_enter Try.func83, Try.ntmps83
    go_wp2_with fail
    refine (HCD.out _ (HMD.out.ext (by repeat (first | exact Ext.refl _ | assumption | apply Ext.drewN' | apply Ext.alloc' | refine Ext.trans ?_ (by assumption))))).mono ?_
    rintro e w1 ⟨rfl, m1, rfl⟩
    go_wp2_with fail
    refine (HCP.out _ (HMD.out.ext (by repeat (first | exact Ext.refl _ | assumption | apply Ext.drewN' | apply Ext.alloc' | refine Ext.trans ?_ (by assumption))))).mono ?_
    rintro e w2 ⟨v2, rfl, hA2⟩
    have HA2 := Lib.hid (show AccR w w2 v2 D from hA2.low (by repeat (first | exact Ext.refl _ | assumption | apply Ext.drewN' | apply Ext.alloc' | refine Ext.trans ?_ (by assumption))))
    clear hA2
    go_wp2_with fail
    refine (HOF.out _).mono ?_
    rintro e w3 ⟨Ao, co, Vo, rfl, hLo, -, -, hx3⟩
    have hMo := hLo.mat
    obtain ⟨p1, p2, -⟩ := id hMo
    obtain ⟨b, o, R, rc, -, -, hA, hrow, -, -, -, hints⟩ := hMo.parts
    unfold maxLen at p2
    obtain rfl := hA (by rw [HML.out]; omega)
    rw [HML.out] at hrow hints p1
    rw [HML.out]
    have HROW := Lib.hid hrow
    have HINT := Lib.hid hints
    have HX3 := Lib.hid (show Ext w w3 from HA2.out.x.trans hx3)
    have HA3 := Lib.hid (HA2.out.on hx3)
    clear hrow hints hA hLo hMo hx3 HA2
    go_wp2
    go_loopg [21, 3] M (fun g s21 s3 wr => ∃ (k : Nat) (X : List (List Int)), k + g = M ∧ s21 = .int .i64 k ∧ Hid (Ext w3 wr ∧ AccR w wr s3 X ∧ X.length = n ∧ fir1 D L g k X = firV D))
    case atStart => exact ⟨0, D, by omega, rfl, Lib.hid ⟨Ext.refl _, HA3.out, HNN.out, HD0.out.symm⟩⟩
    case round =>
      obtain ⟨k, X, hk, rfl, HR⟩ := hrel
      have hxr := HR.out.1
      obtain ⟨Ab, cb, hvb, hMb⟩ := HR.out.2.1.mat
      rw [HR.out.2.2.1] at hvb
      subst hvb
      by_cases hin : k < M
      · obtain ⟨gk1, rfl⟩ : ∃ g', gk = g' + 1 := ⟨gk - 1, by omega⟩
        have hin' : (k : Int) < (M : Nat) := by omega
        have c1 := hxr.cell (HROW.out k hin)
        have HIk := Lib.hid ((HINT.out k hin).ext hxr)
        have HDk := Lib.hid (HOR.out k hin (R k) (rc k) wr (HMD.out.ext (HX3.out.trans hxr)) HIk.out)
        have hlk := HLn.out k hin
        have HLL := Lib.hid (HOL.out k hin)
        have HS1 := Lib.hid (HF1.out gk1 k X)
        rw [hlk] at c1 HDk
        clear hlk HIk
        obtain ⟨Y, hY⟩ : ∃ Y, ordD D (row L k) = Y := ⟨_, rfl⟩
        rw [hY] at HDk HLL HS1
        clear hY
        have HZ := Lib.hid (fun Ax cx W (q1 : Mat W Ax cx Y) (q2 : Mat W Ab cb X) => compareRows_any Ax Ab cx cb Y X W q1 q2)
        rw [HLL.out, HR.out.2.2.1] at HZ
        have HMb := Lib.hid hMb
        obtain ⟨Z, hZ⟩ : ∃ Z, cmpM Y X = Z := ⟨_, rfl⟩
        rw [hZ] at HZ HS1
        clear hZ hMb
        go_wp2_with fail
        refine HDk.out.mono ?_
        rintro e w4 ⟨v4, rfl, hA4⟩
        obtain ⟨Ax, cx, hvx, hMx⟩ := hA4.mat
        rw [HLL.out] at hvx
        subst hvx
        have hx4 := hA4.x
        have HA4 := Lib.hid (hA4.low (HX3.out.trans hxr))
        have HZ1 := Lib.hid (HZ.out Ax cx w4 hMx (HMb.out.ext hx4))
        clear hMx hA4
        go_wp2_with fail
        refine HZ1.out.mono ?_
        rintro e w5 ⟨rfl, m5, rfl⟩
        have hx5 : Ext w3 (w4.drewN m5) := (hxr.trans hx4).drewN' _
        by_cases hz : Z < 0
        · have HN := Lib.hid (show fir1 D L gk1 (k + 1) Y = firV D by rw [← HR.out.2.2.2, HS1.out, if_pos hz])
          go_wp2
          go_roundg gk1
          case measure => omega
          case rel => exact ⟨k + 1, Y, by omega, by go_num, Lib.hid ⟨by first | exact hx5 | exact hx5.drewN' _, by first | exact HA4.out.on (Ext.drewN _ _) | exact (HA4.out.on (Ext.drewN _ _)).on (Ext.drewN _ _), HLL.out, HN.out⟩⟩
        · have HN := Lib.hid (show fir1 D L gk1 (k + 1) X = firV D by rw [← HR.out.2.2.2, HS1.out, if_neg hz])
          go_wp2
          go_roundg gk1
          case measure => omega
          case rel => exact ⟨k + 1, X, by omega, by go_num, Lib.hid ⟨by first | exact hx5 | exact hx5.drewN' _, by first | exact (HR.out.2.1.on hx4).on (Ext.drewN _ _) | exact ((HR.out.2.1.on hx4).on (Ext.drewN _ _)).on (Ext.drewN _ _), HR.out.2.2.1, HN.out⟩⟩
      · have hin' : ¬ (k : Int) < (M : Nat) := by omega
        obtain rfl : gk = 0 := by omega
        obtain rfl : k = M := by omega
        have HE := Lib.hid (show X = fofV D by rw [HF.out, ← HR.out.2.2.2]; rfl)
        clear hMb
        go_wp2
        go_ret
        rw [← HE.out]
        exact ⟨_, rfl, HR.out.2.1⟩
set_option maxRecDepth 100000 in
set_option maxHeartbeats 4000000 in
theorem sFirstOf_any (A : Option Addr) (ca : Nat) (D : List (List Int)) (w : World) (hD : Mat w A ca D) :
    Calls Try.prog 73 #[.slice A D.length ca] w (FreshR w (fofV D)) := by
  have HMD := Lib.hid hD
  have HCD := Lib.hid (fun W (q : Mat W A ca D) => SpaceOk_any A ca D W q)
  have hlD := hD.1
  have hmD := hD.2.1
  unfold maxLen at hmD
  cases hs : spB D with
  | false =>
    have HF := Lib.hid (show fofV D = [] from if_neg fun q => absurd (hs.symm.trans q.1) (by decide))
    rw [hs] at HCD
    clear hs hD
    go_enter Try.func73, Try.ntmps73
    go_wp2_with fail
    refine (HCD.out _ (HMD.out.ext (by repeat (first | exact Ext.refl _ | assumption | apply Ext.drewN' | apply Ext.alloc' | refine Ext.trans ?_ (by assumption))))).mono ?_
    rintro e w1 ⟨rfl, m1, rfl⟩
    go_wp2
    go_ret
    rw [HF.out]
    exact ⟨_, rfl, (AccR.empty (Ext.refl _)).on (by repeat (first | exact Ext.refl _ | assumption | apply Ext.drewN' | apply Ext.alloc' | refine Ext.trans ?_ (by assumption)))⟩
  | true =>
  by_cases h5 : D.length ≤ 5
  rotate_left
  · have HF := Lib.hid (show fofV D = [] from if_neg fun q => h5 q.2)
    have h5' : (5 : Int) < (D.length : Nat) := by omega
    rw [hs] at HCD
    clear hs hD h5
    go_enter Try.func73, Try.ntmps73
    go_wp2_with fail
    refine (HCD.out _ (HMD.out.ext (by repeat (first | exact Ext.refl _ | assumption | apply Ext.drewN' | apply Ext.alloc' | refine Ext.trans ?_ (by assumption))))).mono ?_
    rintro e w1 ⟨rfl, m1, rfl⟩
    go_wp2
    go_ret
    rw [HF.out]
    exact ⟨_, rfl, (AccR.empty (Ext.refl _)).on (by repeat (first | exact Ext.refl _ | assumption | apply Ext.drewN' | apply Ext.alloc' | refine Ext.trans ?_ (by assumption)))⟩
  · have hf := spB_far hs
    obtain ⟨⟨n1, -⟩, hsq, -⟩ := farB_parts hf
    obtain ⟨n, hnn⟩ : ∃ n, D.length = n := ⟨_, rfl⟩
    have HF := Lib.hid (show fofV D = firV D from if_pos ⟨hs, h5⟩)
    have HD0 := Lib.hid (firV_from hsq n1 h5)
    have HOF := Lib.hid (fun W => l7Orders_any n W (by omega))
    obtain ⟨f1, f2, f3⟩ := ordK_facts n n (by omega) (Nat.le_refl _)
    have hok := ordK_ok n (by omega) (by omega)
    have hh := ordK_head n (by omega) (by omega)
    rw [hnn] at HD0
    obtain ⟨L, hL⟩ : ∃ L, ordK n n = L := ⟨_, rfl⟩
    rw [hL] at HD0 HOF f1 f2 f3 hok hh
    have H00 := Lib.hid (show ordD D (row L 0) = D by rw [hh, ← hnn]; exact ordD_id hsq)
    have HOR := Lib.hid (fun i (hi : i < L.length) Bo co W (q1 : Mat W A ca D) (q2 : Ints W Bo co (row L i)) => sOrdered_own A ca D Bo co (row L i) W q1 q2)
    have HOV := Lib.hid (fun i (hi : i < L.length) => show ordV D (row L i) = ordD D (row L i) from if_pos ⟨hs, hok i hi, by rw [(f3 i hi).1, hnn]⟩)
    have HLn := Lib.hid (fun i (hi : i < L.length) => (f3 i hi).1)
    have HOL := Lib.hid (fun i (hi : i < L.length) => show (ordD D (row L i)).length = n by rw [ordD_len, (f3 i hi).1])
    have HF1 := Lib.hid (fun g i b => show fir1 D L (g + 1) i b = fir1 D L g (i + 1) (if cmpM (ordD D (row L i)) b < 0 then ordD D (row L i) else b) from rfl)
    have HSQ := Lib.hid hsq
    rw [hs] at HCD
    rw [hnn] at HCD hlD HOR h5
    rw [hnn]
    clear hs hD hf f3 hL hsq hok hh
    obtain ⟨M, hM⟩ : ∃ M, L.length = M := ⟨_, rfl⟩
    have h5' : ¬ (5 : Int) < (n : Nat) := by omega
    have HML := Lib.hid hM
    have HNN := Lib.hid hnn
    rw [hM] at HD0 HOR HLn HOL f1 f2 HOV
    clear hM hnn
    go_enter Try.func73, Try.ntmps73
    go_wp2_with fail
    refine (HCD.out _ (HMD.out.ext (by repeat (first | exact Ext.refl _ | assumption | apply Ext.drewN' | apply Ext.alloc' | refine Ext.trans ?_ (by assumption))))).mono ?_
    rintro e w1 ⟨rfl, m1, rfl⟩
    go_wp2_with fail
    refine (HOF.out _).mono ?_
    rintro e w3 ⟨Ao, co, Vo, rfl, hLo, -, -, hx3⟩
    have hMo := hLo.mat
    obtain ⟨p1, p2, -⟩ := id hMo
    obtain ⟨b, o, R, rc, -, -, hA, hrow, -, -, -, hints⟩ := hMo.parts
    unfold maxLen at p2
    obtain rfl := hA (by rw [HML.out]; omega)
    rw [HML.out] at hrow hints p1
    rw [HML.out]
    have HROW := Lib.hid hrow
    have HINT := Lib.hid hints
    have HX3 := Lib.hid (show Ext w w3 from Ext.trans (by repeat (first | exact Ext.refl _ | assumption | apply Ext.drewN' | apply Ext.alloc' | refine Ext.trans ?_ (by assumption))) hx3)
    clear hrow hints hA hLo hMo hx3
    go_wp2
    go_loopg [5, 3] M (fun g s5 s3 wr => ∃ (k : Nat) (X : List (List Int)), k + g = M ∧ s5 = .int .i64 k ∧ (k = 0 → s3 = .slice (some ⟨w.heap.size, 0, none⟩) 0 0) ∧ Hid (Ext w3 wr ∧ (0 < k → AccR w wr s3 X ∧ X.length = n ∧ Sq X ∧ fir1 D L g k X = firV D)))
    case atStart => exact ⟨0, D, by omega, rfl, fun _ => rfl, Lib.hid ⟨Ext.refl _, fun h => absurd h (by omega)⟩⟩
    case round =>
      obtain ⟨k, X, hk, rfl, hk0, HR⟩ := hrel
      have hxr := HR.out.1
      by_cases hin : k < M
      · obtain ⟨gk1, rfl⟩ : ∃ g', gk = g' + 1 := ⟨gk - 1, by omega⟩
        have hin' : (k : Int) < (M : Nat) := by omega
        have c1 := hxr.cell (HROW.out k hin)
        have HIk := Lib.hid ((HINT.out k hin).ext hxr)
        have HDk := Lib.hid (HOR.out k hin (R k) (rc k) wr (HMD.out.ext (HX3.out.trans hxr)) HIk.out)
        have hlk := HLn.out k hin
        have HLL := Lib.hid (HOL.out k hin)
        rw [HOV.out k hin] at HDk
        rw [hlk] at c1 HDk
        clear hlk HIk
        by_cases hz0 : k = 0
        · subst hz0
          obtain rfl := hk0 rfl
          rw [Nat.add_zero] at c1
          rw [H00.out] at HDk HLL
          have HD1 := Lib.hid (show fir1 D L gk1 1 D = firV D by rw [HD0.out, show M - 1 = gk1 by omega])
          go_wp2_with fail
          refine HDk.out.mono ?_
          rintro e w4 ⟨v4, rfl, hA4⟩
          have hx4 := hA4.x
          have HA4 := Lib.hid (hA4.low (HX3.out.trans hxr))
          clear hA4
          go_wp2
          go_roundg gk1
          case measure => omega
          case rel => exact ⟨1, D, by omega, by go_num, fun h => absurd h (by omega), Lib.hid ⟨by first | exact hxr.trans hx4 | exact (hxr.trans hx4).drewN' _, fun _ => ⟨by first | exact HA4.out | exact HA4.out.on (Ext.drewN _ _), HLL.out, HSQ.out, HD1.out⟩⟩⟩
        · obtain ⟨hAX, hXn, hXs, hXf⟩ := HR.out.2 (by omega)
          obtain ⟨Ab, cb, hvb, hMb⟩ := hAX.mat
          rw [hXn] at hvb
          subst hvb
          have HS1 := Lib.hid (HF1.out gk1 k X)
          have HYS := Lib.hid (ordD_sq D (row L k))
          obtain ⟨Y, hY⟩ : ∃ Y, ordD D (row L k) = Y := ⟨_, rfl⟩
          rw [hY] at HDk HLL HS1 HYS
          clear hY
          have HLQ := Lib.hid (lsQ_cmp (X := Y) (Y := X) HLL.out hXn (fun i hi => by rw [HYS.out i (by rw [HLL.out]; exact hi), HLL.out]) (fun i hi => by rw [hXs i (by omega), hXn]) n 0 (by omega))
          have HLQ2 := Lib.hid (show cmpQ Y X n 0 = cmpM Y X by unfold cmpM; rw [HLL.out])
          have HZ := Lib.hid (fun Ax cx W (q1 : Mat W Ax cx Y) (q2 : Mat W Ab cb X) => l7Less_any Ax Ab cx cb n Y X W q1 q2 HLL.out hXn HYS.out hXs)
          rw [HLQ.out, HLQ2.out] at HZ
          have HMb := Lib.hid hMb
          have HAX := Lib.hid hAX
          have HXS := Lib.hid (And.intro hXn hXs)
          have HXF := Lib.hid hXf
          obtain ⟨Z, hZ⟩ : ∃ Z, cmpM Y X = Z := ⟨_, rfl⟩
          rw [hZ] at HZ HS1
          have hk0' : ((k : Int) == 0) = false := beq_eq_false_iff_ne.2 (by omega)
          clear hZ hMb hAX hXn hXs hXf hk0
          go_wp2_with fail
          refine HDk.out.mono ?_
          rintro e w4 ⟨v4, rfl, hA4⟩
          obtain ⟨Ax, cx, hvx, hMx⟩ := hA4.mat
          rw [HLL.out] at hvx
          subst hvx
          have hx4 := hA4.x
          have HA4 := Lib.hid (hA4.low (HX3.out.trans hxr))
          have HZ1 := Lib.hid (HZ.out Ax cx w4 hMx (HMb.out.ext hx4))
          clear hMx hA4
          by_cases hz : Z < 0
          · have HN := Lib.hid (show fir1 D L gk1 (k + 1) Y = firV D by rw [← HXF.out, HS1.out, if_pos hz])
            rw [decide_eq_true hz] at HZ1
            go_wp2_with fail
            refine HZ1.out.mono ?_
            rintro e w5 ⟨rfl, m5, rfl⟩
            have hx5 : Ext w3 (w4.drewN m5) := (hxr.trans hx4).drewN' _
            go_wp2
            go_roundg gk1
            case measure => omega
            case rel => exact ⟨k + 1, Y, by omega, by go_num, fun h => absurd h (by omega), Lib.hid ⟨by first | exact hx5 | exact hx5.drewN' _, fun _ => ⟨by first | exact HA4.out.on (Ext.drewN _ _) | exact (HA4.out.on (Ext.drewN _ _)).on (Ext.drewN _ _), HLL.out, HYS.out, HN.out⟩⟩⟩
          · have HN := Lib.hid (show fir1 D L gk1 (k + 1) X = firV D by rw [← HXF.out, HS1.out, if_neg hz])
            rw [decide_eq_false hz] at HZ1
            go_wp2_with fail
            refine HZ1.out.mono ?_
            rintro e w5 ⟨rfl, m5, rfl⟩
            have hx5 : Ext w3 (w4.drewN m5) := (hxr.trans hx4).drewN' _
            go_wp2
            go_roundg gk1
            case measure => omega
            case rel => exact ⟨k + 1, X, by omega, by go_num, fun h => absurd h (by omega), Lib.hid ⟨by first | exact hx5 | exact hx5.drewN' _, fun _ => ⟨by first | exact (HAX.out.on hx4).on (Ext.drewN _ _) | exact ((HAX.out.on hx4).on (Ext.drewN _ _)).on (Ext.drewN _ _), HXS.out.1, HXS.out.2, HN.out⟩⟩⟩
      · have hin' : ¬ (k : Int) < (M : Nat) := by omega
        obtain rfl : gk = 0 := by omega
        obtain rfl : k = M := by omega
        obtain ⟨hAX, hXn, hXs, hXf⟩ := HR.out.2 (by omega)
        have HE := Lib.hid (show X = fofV D by rw [HF.out, ← hXf]; rfl)
        have HAX := Lib.hid hAX
        clear hAX hXn hXs hXf hk0
        go_wp2
        go_ret
        rw [← HE.out]
        exact ⟨_, rfl, HAX.out⟩
end Go.Proofs.Ytbkefojepelggaa
