/- What is proved: impl.belowOf and spec.BelowOf return the distances below, in new memory: the same steps in the same order. Conditions: those of each contract. -/
import Derived.Test.YtbkefojepelggaaCopy
import Derived.Test.YtbkefojepelggaaObj
import Derived.StillTailTactics
import Derived.Deep.RegionHeld3
namespace Go.Proofs.Ytbkefojepelggaa
open Go.RowKit
/-- one step: the way over m -/
def blw (m i j : Nat) (D : List (List Int)) : List (List Int) := set2 D i j (min (at2 D i j) (max (at2 D i m) (at2 D m j)))
def blJ (m i : Nat) : Nat → Nat → List (List Int) → List (List Int) := itR (fun j D => blw m i j D)
def blI (n m : Nat) : Nat → Nat → List (List Int) → List (List Int) := itR (fun i D => blJ m i n 0 D)
def blM (n : Nat) : Nat → Nat → List (List Int) → List (List Int) := itR (fun m D => blI n m n 0 D)
/-- the greatest ultrametric distances below others -/
def blwV (D : List (List Int)) : List (List Int) := blM D.length D.length 0 D
/-- rows of one's own, square, of small numbers -/
def BlS (w : World) (b c n : Nat) (V : Nat → Value) (E : List (List Int)) (wr : World) : Prop :=
  ObjM w.heap.size wr (some ⟨b, 0, none⟩) c E V ∧ Sq E ∧ E.length = n ∧ BdN 0 60 n E ∧ Ext w wr
theorem BlS.step {w wr : World} {b c n : Nat} {V : Nat → Value} {E : List (List Int)} (h : BlS w b c n V E wr) {m i j : Nat} (hm : m < n) (hi : i < n) (hj : j < n) :
    ∃ (q cr : Nat → Nat), (wr.cell? ⟨b, i, none⟩ = some (.slice (some ⟨q i, 0, none⟩) n (cr i)) ∧ wr.cell? ⟨b, m, none⟩ = some (.slice (some ⟨q m, 0, none⟩) n (cr m)) ∧ n ≤ cr i ∧ cr i ≤ maxLen ∧ n ≤ cr m ∧ cr m ≤ maxLen) ∧
      (wr.cell? ⟨q i, j, none⟩ = some (.int .i64 (at2 E i j)) ∧ wr.cell? ⟨q i, m, none⟩ = some (.int .i64 (at2 E i m)) ∧ wr.cell? ⟨q m, j, none⟩ = some (.int .i64 (at2 E m j)) ∧ wr.frozen? ⟨q i, j, none⟩ = false) ∧
      ((0 ≤ at2 E i j ∧ at2 E i j ≤ 60) ∧ (0 ≤ at2 E i m ∧ at2 E i m ≤ 60) ∧ (0 ≤ at2 E m j ∧ at2 E m j ≤ 60)) ∧
      ∀ k : Nat, ∀ x : Int, x = min (at2 E i j) (max (at2 E i m) (at2 E m j)) → BlS w b c n V (blw m i j E) ((wr.drewN k).setCell ⟨q i, j, none⟩ (.int .i64 x)) := by
  obtain ⟨hO, hs, hl, hb, hx⟩ := h
  obtain ⟨q, cr, hq⟩ := hO.sq hs
  rw [hl] at hq
  obtain ⟨a1, a2, a3, a4, a5⟩ := hq i hi
  obtain ⟨b1, b2, b3, b4, b5⟩ := hq m hm
  obtain ⟨c1, f1, S1⟩ := a5 j hj
  obtain ⟨c2, f2, -⟩ := a5 m hm
  obtain ⟨c3, f3, -⟩ := b5 j hj
  refine ⟨q, cr, ⟨a1, b1, a2, a3, b2, b3⟩, ⟨c1, c2, c3, f1⟩, ⟨hb i hi j hj, hb i hi m hm, hb m hm j hj⟩, fun k x hx' => ?_⟩
  subst hx'
  obtain ⟨t1, t1'⟩ := hb i hi j hj
  obtain ⟨t2, t2'⟩ := hb i hi m hm
  obtain ⟨t3, t3'⟩ := hb m hm j hj
  exact ⟨S1 _, hs.set2 (by omega) _, by unfold blw; rw [set2_len]; exact hl, hb.set2 hs hl hi hj (by omega) (by omega), (hx.drewN' k).setCell' (show w.heap.size ≤ q i from a4) _⟩
theorem blS_of {w w1 : World} {v : Value} {D : List (List Int)} (h : AccR w w1 v D) (hf : farB D = true) : ∃ b c V, v = .slice (some ⟨b, 0, none⟩) D.length c ∧ D.length ≤ c ∧ c ≤ maxLen ∧ BlS w b c D.length V D w1 := by
  obtain ⟨V, hA⟩ := h
  obtain ⟨⟨n1, n6⟩, hsq, hc⟩ := farB_parts hf
  obtain ⟨A, c, hv, hO⟩ := hA.obj
  obtain ⟨b, rfl⟩ := hO.head (by omega)
  exact ⟨b, c, V, hv, hO.1, hO.2.1, hO, hsq, rfl, fun i hi j hj => ⟨(hc i hi j hj).1, (hc i hi j hj).2.1⟩, hA.x⟩
/-- such rows, handed back -/
def BlR (w : World) (n : Nat) (E : List (List Int)) (e : Ending) (w' : World) : Prop := ∃ b c V, e = .returned (.slice (some ⟨b, 0, none⟩) n c) ∧ BlS w b c n V E w'
set_option maxRecDepth 100000 in
set_option maxHeartbeats 4000000 in
theorem sBelowOf_any (A : Option Addr) (cp : Nat) (D : List (List Int)) (w : World) (h : Mat w A cp D) (hf : farB D = true) :
    Calls Try.prog 74 #[.slice A D.length cp] w (BlR w D.length (blwV D)) := by
  have hcm := h.2.1
  have hlc := h.1
  unfold maxLen at hcm
  have HM := Lib.hid h
  have HC := Lib.hid (FarOk_any A cp D w h)
  obtain ⟨⟨n1, n6⟩, hsq, -⟩ := farB_parts hf
  have HCP := Lib.hid (fun W (q : Mat W A cp D) => l2Copy_any A cp D W q (by omega) (fun i hi => by rw [hsq i hi]; omega))
  have HB := Lib.hid (fun w1 v (q : AccR w w1 v D) => blS_of q hf)
  have H0 := Lib.hid (show blwV D = blM D.length D.length 0 D from rfl)
  rw [hf] at HC
  obtain ⟨n, hn⟩ : ∃ n, D.length = n := ⟨_, rfl⟩
  rw [hn] at HC HCP HB H0 hlc n1 n6
  rw [hn]
  clear h hf hsq hn
  obtain ⟨R, hR⟩ : ∃ R, blwV D = R := ⟨_, rfl⟩
  rw [hR] at H0
  rw [hR]
  clear hR
  go_enter Try.func74, Try.ntmps74
  go_wp2_with fail
  refine HC.out.mono ?_
  rintro e w1 ⟨rfl, m1, rfl⟩
  go_wp2_with fail
  refine (HCP.out _ (HM.out.ext (by repeat (first | exact Ext.refl _ | assumption | apply Ext.drewN' | apply Ext.alloc' | refine Ext.trans ?_ (by assumption))))).mono ?_
  rintro e w2 ⟨v2, rfl, hA2⟩
  obtain ⟨b, c, V, rfl, hc1, hc2, hS⟩ := HB.out w2 v2 (hA2.low (by repeat (first | exact Ext.refl _ | assumption | apply Ext.drewN' | apply Ext.alloc' | refine Ext.trans ?_ (by assumption))))
  have HS := Lib.hid hS
  unfold maxLen at hc2
  clear hA2 hS HB HC HCP
  go_wp2
  go_loopg [4] n (fun k s4 wr => ∃ (m : Nat) (E : List (List Int)), m + k = n ∧ s4 = .int .i64 m ∧ Hid (BlS w b c n V E wr ∧ blM n k m E = R))
  case atStart => exact ⟨0, D, by omega, rfl, Lib.hid ⟨HS.out, H0.out.symm⟩⟩
  case round =>
    obtain ⟨m, E1, hm, rfl, HS1⟩ := hrel
    clear HS
    by_cases hmn : m < n
    · obtain ⟨g1, rfl⟩ : ∃ g', gk = g' + 1 := ⟨gk - 1, by omega⟩
      have hmn' : (m : Int) < (n : Nat) := by omega
      have HE1 := Lib.hid (show blM n g1 (m + 1) (blI n m n 0 E1) = R from HS1.out.2)
      go_wp2
      go_loopg [5] n (fun k s5 wr => ∃ (i : Nat) (E : List (List Int)), i + k = n ∧ s5 = .int .i64 i ∧ Hid (BlS w b c n V E wr ∧ blI n m k i E = blI n m n 0 E1))
      case atStart => exact ⟨0, E1, by omega, rfl, Lib.hid ⟨HS1.out.1, rfl⟩⟩
      case round =>
        obtain ⟨i, E2, hi, rfl, HS2⟩ := hrel
        clear HS1
        by_cases hin : i < n
        · obtain ⟨g2, rfl⟩ : ∃ g', gk = g' + 1 := ⟨gk - 1, by omega⟩
          have hin' : (i : Int) < (n : Nat) := by omega
          have HE2 := Lib.hid (show blI n m g2 (i + 1) (blJ m i n 0 E2) = blI n m n 0 E1 from HS2.out.2)
          go_wp2
          go_loopg [6] n (fun k s6 wr => ∃ (j : Nat) (E : List (List Int)), j + k = n ∧ s6 = .int .i64 j ∧ Hid (BlS w b c n V E wr ∧ blJ m i k j E = blJ m i n 0 E2))
          case atStart => exact ⟨0, E2, by omega, rfl, Lib.hid ⟨HS2.out.1, rfl⟩⟩
          case round =>
            obtain ⟨j, E3, hj, rfl, HS3⟩ := hrel
            clear HS2
            by_cases hjn : j < n
            · obtain ⟨g3, rfl⟩ : ∃ g', gk = g' + 1 := ⟨gk - 1, by omega⟩
              have hjn' : (j : Int) < (n : Nat) := by omega
              have HE3 := Lib.hid (show blJ m i g3 (j + 1) (blw m i j E3) = blJ m i n 0 E2 from HS3.out.2)
              obtain ⟨q, cr, ⟨a1, b1, a2, a3, b2, b3⟩, hcs, ⟨⟨t1, t1'⟩, ⟨t2, t2'⟩, t3, t3'⟩, hstep⟩ := HS3.out.1.step hmn hin hjn
              have HK := Lib.hid (hstep 1)
              obtain ⟨X, hX⟩ : ∃ X, at2 E3 i j = X := ⟨_, rfl⟩
              obtain ⟨Y, hY⟩ : ∃ X, at2 E3 i m = X := ⟨_, rfl⟩
              obtain ⟨Z, hZ⟩ : ∃ X, at2 E3 m j = X := ⟨_, rfl⟩
              rw [hX, hY, hZ] at hcs HK
              rw [hX] at t1 t1'
              rw [hY] at t2 t2'
              rw [hZ] at t3 t3'
              obtain ⟨c1, c2, c3, f1⟩ := hcs
              have HC := Lib.hid (And.intro c1 (And.intro c2 (And.intro c3 (And.intro a1 (And.intro b1 f1)))))
              unfold maxLen at a3 b3
              clear hstep HS3 c1 c2 c3 a1 b1 f1 hX hY hZ
              go_wp2_with fail
              obtain ⟨c1, c2, c3, a1, b1, f1⟩ := HC.out
              go_still_tail 29, (by kernel_rfl)
              all_goals
                change wpList _ _ _ _ _ wr.drew
                go_wp2
                all_goals
                  go_roundg g3
                  case measure => omega
                  case rel =>
                    refine ⟨j + 1, _, by omega, by go_num, Lib.hid ⟨HK.out _ ?_, HE3.out⟩⟩
                    omega
            · have hjn' : ¬ (j : Int) < (n : Nat) := by omega
              obtain rfl : gk = 0 := by omega
              have HE := Lib.hid (show E3 = blJ m i n 0 E2 from HS3.out.2)
              go_wp2
              go_roundg g2
              case measure => omega
              case rel => exact ⟨i + 1, E3, by omega, by go_num, Lib.hid ⟨HS3.out.1, by rw [HE.out]; exact HE2.out⟩⟩
        · have hin' : ¬ (i : Int) < (n : Nat) := by omega
          obtain rfl : gk = 0 := by omega
          have HE := Lib.hid (show E2 = blI n m n 0 E1 from HS2.out.2)
          go_wp2
          go_roundg g1
          case measure => omega
          case rel => exact ⟨m + 1, E2, by omega, by go_num, Lib.hid ⟨HS2.out.1, by rw [HE.out]; exact HE1.out⟩⟩
    · have hmn' : ¬ (m : Int) < (n : Nat) := by omega
      obtain rfl : gk = 0 := by omega
      have HE := Lib.hid (show E1 = R from HS1.out.2)
      go_wp2
      go_ret
      exact ⟨b, c, V, rfl, by rw [← HE.out]; exact HS1.out.1⟩
theorem blwF_any (x y : Int) (w : World) : Calls Try.prog 97 #[.int .i64 x, .int .i64 y] w fun e w' => e = .returned (.int .i64 (max x y)) ∧ w' = w := by
  by_cases h : x < y
  · have HF := Lib.hid (show max x y = y by omega)
    go_enter Try.func97, Try.ntmps97
    go_wp2
    go_ret
    exact ⟨ret_int (by first | rfl | exact HF.out.symm), rfl⟩
  · have HF := Lib.hid (show max x y = x by omega)
    go_enter Try.func97, Try.ntmps97
    go_wp2
    go_ret
    exact ⟨ret_int (by first | rfl | exact HF.out.symm), rfl⟩
set_option maxRecDepth 100000 in
set_option maxHeartbeats 4000000 in
theorem bestWays_any (A : Option Addr) (cp : Nat) (D : List (List Int)) (w : World) (h : Mat w A cp D) (hf : farB D = true) :
    Calls Try.prog 96 #[.slice A D.length cp, .func (.func 97) #[] #[]] w (BlR w D.length (blwV D)) := by
  have hcm := h.2.1
  have hlc := h.1
  unfold maxLen at hcm
  have HM := Lib.hid h
  obtain ⟨⟨n1, n6⟩, hsq, -⟩ := farB_parts hf
  have HCP := Lib.hid (fun W (q : Mat W A cp D) => copyRows_any A cp D W q (by omega) (fun i hi => by rw [hsq i hi]; omega))
  have HB := Lib.hid (fun w1 v (q : AccR w w1 v D) => blS_of q hf)
  have H0 := Lib.hid (show blwV D = blM D.length D.length 0 D from rfl)
  obtain ⟨n, hn⟩ : ∃ n, D.length = n := ⟨_, rfl⟩
  rw [hn] at HCP HB H0 hlc n1 n6
  rw [hn]
  clear h hf hsq hn
  obtain ⟨R, hR⟩ : ∃ R, blwV D = R := ⟨_, rfl⟩
  rw [hR] at H0
  rw [hR]
  clear hR
  go_enter Try.func96, Try.ntmps96
  go_wp2_with fail
  refine (HCP.out _ (HM.out.ext (by repeat (first | exact Ext.refl _ | assumption | apply Ext.drewN' | apply Ext.alloc' | refine Ext.trans ?_ (by assumption))))).mono ?_
  rintro e w2 ⟨v2, rfl, hA2⟩
  obtain ⟨b, c, V, rfl, hc1, hc2, hS⟩ := HB.out w2 v2 (hA2.low (by repeat (first | exact Ext.refl _ | assumption | apply Ext.drewN' | apply Ext.alloc' | refine Ext.trans ?_ (by assumption))))
  have HS := Lib.hid hS
  unfold maxLen at hc2
  clear hA2 hS HB HCP
  go_wp2
  go_loopg [13] n (fun k s13 wr => ∃ (m : Nat) (E : List (List Int)), m + k = n ∧ s13 = .int .i64 m ∧ Hid (BlS w b c n V E wr ∧ blM n k m E = R))
  case atStart => exact ⟨0, D, by omega, rfl, Lib.hid ⟨HS.out, H0.out.symm⟩⟩
  case round =>
    obtain ⟨m, E1, hm, rfl, HS1⟩ := hrel
    clear HS
    by_cases hmn : m < n
    · obtain ⟨g1, rfl⟩ : ∃ g', gk = g' + 1 := ⟨gk - 1, by omega⟩
      have hmn' : (m : Int) < (n : Nat) := by omega
      have HE1 := Lib.hid (show blM n g1 (m + 1) (blI n m n 0 E1) = R from HS1.out.2)
      go_wp2
      go_loopg [18] n (fun k s18 wr => ∃ (i : Nat) (E : List (List Int)), i + k = n ∧ s18 = .int .i64 i ∧ Hid (BlS w b c n V E wr ∧ blI n m k i E = blI n m n 0 E1))
      case atStart => exact ⟨0, E1, by omega, rfl, Lib.hid ⟨HS1.out.1, rfl⟩⟩
      case round =>
        obtain ⟨i, E2, hi, rfl, HS2⟩ := hrel
        clear HS1
        by_cases hin : i < n
        · obtain ⟨g2, rfl⟩ : ∃ g', gk = g' + 1 := ⟨gk - 1, by omega⟩
          have hin' : (i : Int) < (n : Nat) := by omega
          have HE2 := Lib.hid (show blI n m g2 (i + 1) (blJ m i n 0 E2) = blI n m n 0 E1 from HS2.out.2)
          go_wp2
          go_loopg [23] n (fun k s23 wr => ∃ (j : Nat) (E : List (List Int)), j + k = n ∧ s23 = .int .i64 j ∧ Hid (BlS w b c n V E wr ∧ blJ m i k j E = blJ m i n 0 E2))
          case atStart => exact ⟨0, E2, by omega, rfl, Lib.hid ⟨HS2.out.1, rfl⟩⟩
          case round =>
            obtain ⟨j, E3, hj, rfl, HS3⟩ := hrel
            clear HS2
            by_cases hjn : j < n
            · obtain ⟨g3, rfl⟩ : ∃ g', gk = g' + 1 := ⟨gk - 1, by omega⟩
              have hjn' : (j : Int) < (n : Nat) := by omega
              have HE3 := Lib.hid (show blJ m i g3 (j + 1) (blw m i j E3) = blJ m i n 0 E2 from HS3.out.2)
              obtain ⟨q, cr, ⟨a1, b1, a2, a3, b2, b3⟩, hcs, ⟨⟨t1, t1'⟩, ⟨t2, t2'⟩, t3, t3'⟩, hstep⟩ := HS3.out.1.step hmn hin hjn
              have HK := Lib.hid (hstep 1)
              obtain ⟨X, hX⟩ : ∃ X, at2 E3 i j = X := ⟨_, rfl⟩
              obtain ⟨Y, hY⟩ : ∃ X, at2 E3 i m = X := ⟨_, rfl⟩
              obtain ⟨Z, hZ⟩ : ∃ X, at2 E3 m j = X := ⟨_, rfl⟩
              rw [hX, hY, hZ] at hcs HK
              rw [hX] at t1 t1'
              rw [hY] at t2 t2'
              rw [hZ] at t3 t3'
              obtain ⟨c1, c2, c3, f1⟩ := hcs
              have HF1 := Lib.hid (fun k => show (wr.drewN k).cell? ⟨b, i, none⟩ = some (.slice (some ⟨q i, 0, none⟩) n (cr i)) ∧ (wr.drewN k).cell? ⟨b, m, none⟩ = some (.slice (some ⟨q m, 0, none⟩) n (cr m)) ∧ (wr.drewN k).cell? ⟨q i, j, none⟩ = some (.int .i64 X) ∧ (wr.drewN k).cell? ⟨q i, m, none⟩ = some (.int .i64 Y) ∧ (wr.drewN k).cell? ⟨q m, j, none⟩ = some (.int .i64 Z) from ⟨a1, b1, c1, c2, c3⟩)
              unfold maxLen at a3 b3
              have HM3 := Lib.hid (show ∃ M, max Y Z = M ∧ 0 ≤ M ∧ M ≤ 60 from ⟨_, rfl, by omega, by omega⟩)
              obtain ⟨M, hM, M0, M1⟩ := HM3.out
              rw [hM] at HK
              have HBF := Lib.hid (fun W => blwF_any Y Z W)
              rw [hM] at HBF
              clear hstep HS3 c1 c2 c3 a1 b1 hX hY hZ hM HM3
              go_wp2_with fail
              obtain ⟨a1, b1, c1, c2, c3⟩ := HF1.out 1
              change wr.drew.cell? _ = _ at a1 b1 c1 c2 c3
              refine wp_region_still_tail 30 (by kernel_rfl) (by kernel_rfl) ?_
              simp only [List.take_succ_cons, List.take_zero, List.drop_succ_cons, List.drop_zero]
              repeat still_step
              still_call (HBF.out _)
              repeat still_step
              refine wpStill_nil ?_
              change wpList _ _ _ _ _ wr.drew
              go_wp2
              all_goals
                go_roundg g3
                case measure => omega
                case rel =>
                  refine ⟨j + 1, _, by omega, by go_num, Lib.hid ⟨HK.out _ ?_, HE3.out⟩⟩
                  omega
            · have hjn' : ¬ (j : Int) < (n : Nat) := by omega
              obtain rfl : gk = 0 := by omega
              have HE := Lib.hid (show E3 = blJ m i n 0 E2 from HS3.out.2)
              go_wp2
              go_roundg g2
              case measure => omega
              case rel => exact ⟨i + 1, E3, by omega, by go_num, Lib.hid ⟨HS3.out.1, by rw [HE.out]; exact HE2.out⟩⟩
        · have hin' : ¬ (i : Int) < (n : Nat) := by omega
          obtain rfl : gk = 0 := by omega
          have HE := Lib.hid (show E2 = blI n m n 0 E1 from HS2.out.2)
          go_wp2
          go_roundg g1
          case measure => omega
          case rel => exact ⟨m + 1, E2, by omega, by go_num, Lib.hid ⟨HS2.out.1, by rw [HE.out]; exact HE1.out⟩⟩
    · have hmn' : ¬ (m : Int) < (n : Nat) := by omega
      obtain rfl : gk = 0 := by omega
      have HE := Lib.hid (show E1 = R from HS1.out.2)
      go_wp2
      go_ret
      exact ⟨b, c, V, rfl, by rw [← HE.out]; exact HS1.out.1⟩
end Go.Proofs.Ytbkefojepelggaa
