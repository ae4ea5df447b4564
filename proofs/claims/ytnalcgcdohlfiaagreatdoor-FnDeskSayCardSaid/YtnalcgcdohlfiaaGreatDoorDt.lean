/- What is proved: texts of deeds: spec.DeedText, impl.deedText, impl.DeedText (where deedNames holds the names). Conditions: those of each contract. -/
import Derived.Test.YtnalcgcdohlfiaaGreatDoorTx
import Derived.Test.YtnalcgcdohlfiaaGreatDoorPa
import Derived.Deep.DeepCutAuto
import Derived.Deep.RegionLaw
import Derived.Deep.CutBlock
namespace Go.Proofs.YtnalcgcdohlfiaaGreatDoor
open Go.RowKit
/-- the words of deeds -/
def nameT (k : Int) : List UInt8 := if k = 0 then [112, 117, 116] else if k = 1 then [100, 114, 111, 112] else if k = 2 then [102, 105, 114, 115, 116] else if k = 3 then [98, 101, 108, 111, 119] else [98, 97, 99, 107]
def allN (xs : List Int) : Bool := decide (∀ i, i < xs.length → 0 ≤ ix xs i ∧ ix xs i ≤ 99)
/-- a deed that has a text -/
def dtB (k : Int) (xs : List Int) : Bool := allN xs && ((decide (k = 0) && decide (1 ≤ xs.length ∧ xs.length ≤ 6)) || (decide (k = 1) && decide (xs.length = 1)) || (decide (2 ≤ k ∧ k ≤ 4) && decide (xs.length = 0)))
def dtx (k : Int) (xs : List Int) : List UInt8 := if dtB k xs = true then (if xs.length = 0 then nameT k else nameT k ++ [32] ++ rowT xs) else []
/-- the package's words -/
def Names (w : World) : Prop := ∀ j : Nat, j < 5 → w.cell? ⟨0, j, none⟩ = some (tx (nameT j))
theorem Names.ext {w w' : World} (h : Names w) (k : Ext w w') : Names w' := fun j hj => k.cell (h j hj)
set_option maxRecDepth 100000 in
theorem l11Words_any (w : World) : Calls Tryz.prog 54 #[] w fun e w' => ∃ g, e = .returned (.slice (some ⟨g, 0, none⟩) 5 5) ∧ (∀ j : Nat, j < 5 → w'.cell? ⟨g, j, none⟩ = some (tx (nameT j))) ∧ Ext w w' := by
  go_enter Tryz.func54, Tryz.ntmps54
  go_wp2
  go_ret
  refine ⟨w.heap.size, rfl, fun j hj => ?_, Ext.alloc _ _⟩
  rw [cell_cells (heap_alloc_new w _)]
  have : j = 0 ∨ j = 1 ∨ j = 2 ∨ j = 3 ∨ j = 4 := by omega
  rcases this with rfl | rfl | rfl | rfl | rfl <;> rfl
theorem allN_cons {xs : List Int} : allN xs = true ↔ ∀ i, i < xs.length → 0 ≤ ix xs i ∧ ix xs i ≤ 99 := decide_eq_true_iff
set_option maxRecDepth 100000 in
set_option maxHeartbeats 4000000 in
theorem sDeedText_any (kd : Int) (A : Option Addr) (c : Nat) (xs : List Int) (w : World) (h : Ints w A c xs) (hl : xs.length ≤ 2000000) :
    Calls Tryz.prog 30 #[.agg #[.int .i64 kd, .slice A xs.length c]] w fun e w' => e = .returned (tx (dtx kd xs)) ∧ Ext w w' := by
  have H0 := Lib.hid h
  obtain ⟨h1, h2, b, o, hA, hc⟩ := h
  unfold maxLen at h2
  have HC := Lib.hid (fun W (q : Ext w W) i (hi : i < xs.length) => q.cell (hc i hi))
  obtain ⟨w1, hw1⟩ : ∃ W, w.alloc (.cells #[.int .i64 kd, .slice A xs.length c] 54) = W := ⟨_, rfl⟩
  have hx1 : Ext w w1 := by rw [← hw1]; exact Ext.alloc _ _
  have hb := heap_alloc_new w (.cells #[.int .i64 kd, .slice A xs.length c] 54)
  rw [hw1] at hb
  have HB := Lib.hid (fun W (q : Ext w1 W) => two_cells ((q.block (heap_lt hb)).trans hb))
  obtain ⟨p0, p1⟩ := two_cells hb
  clear hc hb
  by_cases hk : 0 ≤ kd ∧ kd ≤ 4
  · have HK := Lib.hid (fun W => l1In_any kd 0 4 W)
    rw [show inB kd 0 4 = true from decide_eq_true hk] at HK
    go_enter Tryz.func30, Tryz.ntmps30
    go_wp2_with fail
    refine (HK.out _).mono ?_
    rintro e w2 ⟨rfl, hw⟩
    rw [hw]
    clear hw w2
    go_wp2_with fail
    clear hw1 p0 p1
    go_loopg [3] xs.length (fun g s3 wr => ∃ (i : Nat), i + g = xs.length ∧ s3 = .int .i64 i ∧ Hid (Ext w1 wr ∧ ∀ j, j < i → 0 ≤ ix xs j ∧ ix xs j ≤ 99))
    case atStart => exact ⟨0, by omega, rfl, Lib.hid ⟨Ext.refl _, fun j hj => absurd hj (by omega)⟩⟩
    case round =>
      obtain ⟨i, hi, rfl, HW⟩ := hrel
      obtain ⟨p0, p1⟩ := HB.out wr HW.out.1
      by_cases hin : i < xs.length
      · obtain ⟨g1, rfl⟩ : ∃ g', gk = g' + 1 := ⟨gk - 1, by omega⟩
        have hin' : (i : Int) < (xs.length : Nat) := by omega
        obtain rfl := hA (by omega)
        have c1 := HC.out wr (hx1.trans HW.out.1) i hin
        obtain ⟨x, hx⟩ : ∃ x, ix xs i = x := ⟨_, rfl⟩
        rw [hx] at c1
        have HL := Lib.hid (fun W => l1In_any x 0 99 W)
        by_cases hin2 : 0 ≤ x ∧ x ≤ 99
        · rw [show inB x 0 99 = true from decide_eq_true hin2] at HL
          have HS := Lib.hid (show 0 ≤ ix xs i ∧ ix xs i ≤ 99 by rw [hx]; exact hin2)
          clear hx
          go_wp2_with fail
          refine (HL.out _).mono ?_
          rintro e w3 ⟨rfl, rfl⟩
          go_wp2
          go_roundg g1
          case measure => omega
          case rel => exact ⟨i + 1, by omega, by go_num, Lib.hid ⟨HW.out.1, fun j hj => by
            by_cases e : j = i
            · subst e; exact HS.out
            · exact HW.out.2 j (by omega)⟩⟩
        · rw [show inB x 0 99 = false from decide_eq_false hin2] at HL
          have HS : Hid (dtx kd xs = []) := Lib.hid (by
            unfold dtx dtB
            rw [if_neg (by
              rw [show allN xs = false from decide_eq_false fun q => hin2 (by rw [← hx]; exact q i hin)]
              simp)])
          clear hx
          go_wp2_with fail
          refine (HL.out _).mono ?_
          rintro e w3 ⟨rfl, rfl⟩
          go_wp2
          go_ret
          exact ⟨by rw [HS.out]; rfl, hx1.trans HW.out.1⟩
      · have hin' : ¬ (i : Int) < (xs.length : Nat) := by omega
        obtain rfl : i = xs.length := by omega
        have hall : allN xs = true := allN_cons.2 HW.out.2
        have HR := Lib.hid (fun W (q : Ext w W) => l11Row_any A c xs W (H0.out.ext q) HW.out.2 (by omega))
        have HXW := Lib.hid HW.out.1
        have HWD := Lib.hid (fun W => l11Words_any W)
        clear HW hA
        obtain ⟨m, rfl⟩ : ∃ m : Nat, kd = (m : Int) := ⟨kd.toNat, by omega⟩
        have hm5 : m < 5 := by omega
        have hm5' : (m : Int) < 5 := by omega
        go_upto_region 8 with fail
        go_cut [4] (fun s4 wx => s4 = tx (nameT m) ∧ Hid (Ext w1 wx))
        case first =>
          go_wp2_with fail
          go_region_law (go_simp; go_at_call 54; refine (HWD.out _).mono ?_; rintro e w5 ⟨gw, rfl, hnm, hx5⟩; have hn0 := hnm m hm5; obtain ⟨s0, s1⟩ := HB.out w5 ((HXW.out.drew').trans hx5))
          all_goals
            go_wp2_with fail
            go_meet
            case rel => exact ⟨rfl, Lib.hid ((HXW.out.drew').trans hx5)⟩
        case rest =>
          obtain ⟨rfl, HX5⟩ := hcut
          clear p0 p1
          obtain ⟨p0, p1⟩ := HB.out wc HX5.out
          obtain ⟨N, hN⟩ : ∃ N, nameT m = N := ⟨_, rfl⟩
          have hNl : N.length ≤ 5 := by
            rw [← hN]; unfold nameT
            split
            · decide
            · split
              · decide
              · split
                · decide
                · split <;> decide
          obtain ⟨R, hR⟩ : ∃ R, rowT xs = R := ⟨_, rfl⟩
          have hRl := rowU_len (allN_cons.1 hall) xs.length (Nat.le_refl _)
          rw [rowU_all, hR] at hRl
          obtain ⟨N2, hN2⟩ : ∃ r, N ++ [32] = r := ⟨_, rfl⟩
          obtain ⟨N3, hN3⟩ : ∃ r, N2 ++ R = r := ⟨_, rfl⟩
          have e1 : ((⟨N.toArray⟩ : ByteArray) ++ ⟨#[32]⟩) = ⟨N2.toArray⟩ := by rw [← hN2]; exact tx_add N [32]
          have e2 : ((⟨N2.toArray⟩ : ByteArray) ++ ⟨R.toArray⟩) = ⟨N3.toArray⟩ := by rw [← hN3]; exact tx_add N2 R
          have hl2 : N2.length ≤ 6 := by rw [← hN2, List.length_append, List.length_singleton]; omega
          have HD := Lib.hid (show dtx m xs = if dtB m xs = true then (if xs.length = 0 then N else N3) else [] by rw [← hN3, ← hN2, ← hN, ← hR]; rfl)
          have HBB : Hid (dtB m xs = ((decide ((m : Int) = 0) && decide (1 ≤ xs.length ∧ xs.length ≤ 6)) || (decide ((m : Int) = 1) && decide (xs.length = 1)) || (decide (2 ≤ (m : Int) ∧ (m : Int) ≤ 4) && decide (xs.length = 0)))) := Lib.hid (by unfold dtB; rw [hall, Bool.true_and])
          rw [hR] at HR
          rw [hN]
          clear hN hR hN2 hN3 hall HWD HC
          unfold tx at HR
          unfold tx
          have HXF := Lib.hid (hx1.trans HX5.out)
          by_cases m0 : m = 0
          · subst m0
            have HI := Lib.hid (fun W => l1In_any (xs.length : Nat) 1 6 W)
            by_cases hq : 1 ≤ xs.length ∧ xs.length ≤ 6
            · rw [show inB (xs.length : Nat) 1 6 = true from decide_eq_true (by omega)] at HI
              have HE : Hid (dtx ((0 : Nat) : Int) xs = N3) := Lib.hid (by rw [HD.out, HBB.out, if_pos (by rw [decide_eq_true hq]; simp), if_neg (by omega)])
              clear HD HBB
              go_wp2_with fail
              refine (HI.out _).mono ?_
              rintro e w6 ⟨rfl, hw⟩
              rw [hw]
              clear hw w6
              go_wp2_with fail
              refine (HR.out _ (hx1.trans HX5.out)).mono ?_
              rintro e w7 ⟨rfl, hx7⟩
              go_wp2
              go_ret
              exact ⟨by rw [HE.out]; rfl, HXF.out.trans hx7⟩
            · rw [show inB (xs.length : Nat) 1 6 = false from decide_eq_false (by omega)] at HI
              have HE : Hid (dtx ((0 : Nat) : Int) xs = []) := Lib.hid (by rw [HD.out, HBB.out, if_neg (by rw [decide_eq_false hq]; simp)])
              clear HD HBB
              go_wp2_with fail
              refine (HI.out _).mono ?_
              rintro e w6 ⟨rfl, hw⟩
              rw [hw]
              clear hw w6
              go_wp2
              go_ret
              exact ⟨by rw [HE.out]; rfl, HXF.out⟩
          · have m0' : (((m : Nat) : Int) == 0) = false := beq_eq_false_iff_ne.2 (by omega)
            have m0i : ¬ ((m : Nat) : Int) = 0 := by omega
            by_cases m1 : m = 1
            · subst m1
              by_cases hq : xs.length = 1
              · have hq' : (((xs.length : Nat) : Int) == 1) = true := beq_iff_eq.2 (by omega)
                have HE : Hid (dtx ((1 : Nat) : Int) xs = N3) := Lib.hid (by rw [HD.out, HBB.out, if_pos (by rw [decide_eq_true hq]; simp), if_neg (by omega)])
                clear HD HBB hq
                go_wp2_with fail
                refine (HR.out _ (hx1.trans HX5.out)).mono ?_
                rintro e w7 ⟨rfl, hx7⟩
                go_wp2
                go_ret
                exact ⟨by show _ = Ending.returned (tx (dtx ((1 : Nat) : Int) xs)); rw [HE.out]; rfl, HXF.out.trans hx7⟩
              · have hq' : (((xs.length : Nat) : Int) == 1) = false := beq_eq_false_iff_ne.2 (by omega)
                have HE : Hid (dtx ((1 : Nat) : Int) xs = []) := Lib.hid (by rw [HD.out, HBB.out, if_neg (by rw [decide_eq_false hq]; simp)])
                clear HD HBB hq
                go_wp2
                go_ret
                exact ⟨by show _ = Ending.returned (tx (dtx ((1 : Nat) : Int) xs)); rw [HE.out]; rfl, HXF.out⟩
            · have m1' : (((m : Nat) : Int) == 1) = false := beq_eq_false_iff_ne.2 (by omega)
              have m1i : ¬ ((m : Nat) : Int) = 1 := by omega
              have m2 : (2 : Int) ≤ ((m : Nat) : Int) := by omega
              by_cases hq : xs.length = 0
              · have hq' : (((xs.length : Nat) : Int) == 0) = true := beq_iff_eq.2 (by omega)
                have HE : Hid (dtx ((m : Nat) : Int) xs = N) := Lib.hid (by rw [HD.out, HBB.out, if_pos (by rw [decide_eq_true hq, decide_eq_true (show (2 : Int) ≤ m ∧ (m : Int) ≤ 4 by omega)]; simp), if_pos hq])
                clear HD HBB hq
                go_wp2
                go_ret
                exact ⟨by rw [HE.out]; rfl, HXF.out⟩
              · have hq' : (((xs.length : Nat) : Int) == 0) = false := beq_eq_false_iff_ne.2 (by omega)
                have HE : Hid (dtx ((m : Nat) : Int) xs = []) := Lib.hid (by rw [HD.out, HBB.out, if_neg (by rw [decide_eq_false hq, decide_eq_false m0i, decide_eq_false m1i]; simp)])
                clear HD HBB hq
                go_wp2
                go_ret
                exact ⟨by rw [HE.out]; rfl, HXF.out⟩
  · have HK := Lib.hid (fun W => l1In_any kd 0 4 W)
    rw [show inB kd 0 4 = false from decide_eq_false hk] at HK
    have HS : Hid (dtx kd xs = []) := Lib.hid (by
      unfold dtx dtB
      rw [if_neg (by
        rw [decide_eq_false (show ¬ kd = 0 by omega), decide_eq_false (show ¬ kd = 1 by omega), decide_eq_false (show ¬ (2 ≤ kd ∧ kd ≤ 4) by omega)]
        simp)])
    go_enter Tryz.func30, Tryz.ntmps30
    go_wp2_with fail
    refine (HK.out _).mono ?_
    rintro e w2 ⟨rfl, rfl⟩
    go_wp2
    go_ret
    exact ⟨by rw [HS.out]; rfl, hx1⟩
set_option maxRecDepth 100000 in
set_option maxHeartbeats 4000000 in
theorem deedText_any (kd : Int) (A : Option Addr) (c : Nat) (xs : List Int) (w : World) (h : Ints w A c xs) (hn : Names w) (hl : xs.length ≤ 2000000) :
    Calls Tryz.prog 60 #[.agg #[.int .i64 kd, .slice A xs.length c]] w fun e w' => e = .returned (tx (dtx kd xs)) ∧ Ext w w' := by
  have H0 := Lib.hid h
  have HN := Lib.hid hn
  obtain ⟨h1, h2, b, o, hA, hc⟩ := h
  unfold maxLen at h2
  have HC := Lib.hid (fun W (q : Ext w W) i (hi : i < xs.length) => q.cell (hc i hi))
  obtain ⟨w1, hw1⟩ : ∃ W, w.alloc (.cells #[.int .i64 kd, .slice A xs.length c] 54) = W := ⟨_, rfl⟩
  have hx1 : Ext w w1 := by rw [← hw1]; exact Ext.alloc _ _
  have hb := heap_alloc_new w (.cells #[.int .i64 kd, .slice A xs.length c] 54)
  rw [hw1] at hb
  have HB := Lib.hid (fun W (q : Ext w1 W) => two_cells ((q.block (heap_lt hb)).trans hb))
  obtain ⟨p0, p1⟩ := two_cells hb
  clear hc hb hn
  by_cases hk : 0 ≤ kd ∧ kd ≤ 4
  · have hk1 : ¬ kd < 0 := by omega
    have hk2 : ¬ 4 < kd := by omega
    obtain ⟨m, rfl⟩ : ∃ m : Nat, kd = (m : Int) := ⟨kd.toNat, by omega⟩
    have hm5 : m < 5 := by omega
    have HW1 := Lib.hid (show Ext w1 (w.alloc (.cells #[.int .i64 m, .slice A xs.length c] 54)) from by rw [hw1]; exact Ext.refl _)
    clear hw1
    go_enter Tryz.func60, Tryz.ntmps60
    go_upto_block 0 with fail
    go_cut [3, 4] (fun s3 s4 wx => ∃ (le mo : Nat), s3 = .int .i64 le ∧ s4 = .int .i64 mo ∧ Hid ((m = 0 ∧ le = 1 ∧ mo = 6) ∨ (m = 1 ∧ le = 1 ∧ mo = 1) ∨ (2 ≤ m ∧ le = 0 ∧ mo = 0)) ∧ Hid (Ext w1 wx))
    case first =>
      by_cases m0 : m = 0
      · subst m0
        go_wp2_with fail
        go_meet
        case rel => exact ⟨1, 6, rfl, rfl, Lib.hid (by first | omega | simp), HW1⟩
      · have m0' : (((m : Nat) : Int) == 0) = false := beq_eq_false_iff_ne.2 (by omega)
        by_cases m1 : m = 1
        · subst m1
          go_wp2_with fail
          go_meet
          case rel => exact ⟨1, 1, rfl, rfl, Lib.hid (by first | omega | simp), HW1⟩
        · have m1' : (((m : Nat) : Int) == 1) = false := beq_eq_false_iff_ne.2 (by omega)
          go_wp2_with fail
          go_meet
          case rel => exact ⟨0, 0, rfl, rfl, Lib.hid (by first | omega | simp; omega), HW1⟩
    case rest =>
      obtain ⟨le, mo, rfl, rfl, HLM, HXW⟩ := hcut
      clear p0 p1
      obtain ⟨p0, p1⟩ := HB.out wc HXW.out
      have hmo : mo ≤ 6 := by have := HLM.out; omega
      have hle : le ≤ 1 := by have := HLM.out; omega
      have HBB : Hid (dtB m xs = (allN xs && decide (le ≤ xs.length ∧ xs.length ≤ mo))) := Lib.hid (by
        unfold dtB
        rcases HLM.out with ⟨rfl, rfl, rfl⟩ | ⟨rfl, rfl, rfl⟩ | ⟨h2, rfl, rfl⟩
        · simp
        · rw [decide_eq_false (show ¬ (((1 : Nat) : Int) = 0) by omega), decide_eq_true (show ((1 : Nat) : Int) = 1 by omega), decide_eq_false (show ¬ (2 ≤ ((1 : Nat) : Int) ∧ ((1 : Nat) : Int) ≤ 4) by omega)]
          simp only [Bool.false_and, Bool.true_and, Bool.false_or, Bool.or_false]
          congr 1
          exact decide_eq_decide.2 (by omega)
        · rw [decide_eq_false (show ¬ ((m : Int) = 0) by omega), decide_eq_false (show ¬ ((m : Int) = 1) by omega), decide_eq_true (show 2 ≤ (m : Int) ∧ (m : Int) ≤ 4 by omega)]
          simp only [Bool.false_and, Bool.true_and, Bool.false_or, Bool.or_false]
          congr 1
          exact decide_eq_decide.2 (by omega))
      by_cases q1 : xs.length < le
      · have q1' : ((xs.length : Nat) : Int) < (le : Int) := by omega
        have HE : Hid (dtx m xs = []) := Lib.hid (by unfold dtx; rw [HBB.out, if_neg (by rw [decide_eq_false (by omega)]; simp)])
        clear HBB
        go_wp2_with fail
        go_ret
        exact ⟨by rw [HE.out]; rfl, hx1.trans HXW.out⟩
      · have q1' : ¬ ((xs.length : Nat) : Int) < (le : Int) := by omega
        by_cases q2 : mo < xs.length
        · have q2' : (mo : Int) < ((xs.length : Nat) : Int) := by omega
          have HE : Hid (dtx m xs = []) := Lib.hid (by unfold dtx; rw [HBB.out, if_neg (by rw [decide_eq_false (by omega)]; simp)])
          clear HBB
          go_wp2_with fail
          go_ret
          exact ⟨by rw [HE.out]; rfl, hx1.trans HXW.out⟩
        · have q2' : ¬ (mo : Int) < ((xs.length : Nat) : Int) := by omega
          have HD : Hid (dtx m xs = if allN xs = true then (if xs.length = 0 then nameT m else nameT m ++ [32] ++ rowT xs) else []) := Lib.hid (by unfold dtx; rw [HBB.out, decide_eq_true (by omega), Bool.and_true])
          clear HBB
          go_wp2_with fail
          clear p0 p1
          go_loopg [36] xs.length (fun g s36 wr => ∃ (i : Nat), i + g = xs.length ∧ s36 = .int .i64 i ∧ Hid (Ext w1 wr ∧ ∀ j, j < i → 0 ≤ ix xs j ∧ ix xs j ≤ 99))
          case atStart => exact ⟨0, by omega, rfl, Lib.hid ⟨HXW.out, fun j hj => absurd hj (by omega)⟩⟩
          case round =>
            obtain ⟨i, hi, rfl, HW⟩ := hrel
            obtain ⟨p0, p1⟩ := HB.out wr HW.out.1
            by_cases hin : i < xs.length
            · obtain ⟨g1, rfl⟩ : ∃ g', gk = g' + 1 := ⟨gk - 1, by omega⟩
              have hin' : (i : Int) < (xs.length : Nat) := by omega
              obtain rfl := hA (by omega)
              have c1 := HC.out wr (hx1.trans HW.out.1) i hin
              obtain ⟨x, hx⟩ : ∃ x, ix xs i = x := ⟨_, rfl⟩
              rw [hx] at c1
              by_cases hin2 : 0 ≤ x ∧ x ≤ 99
              · have HS := Lib.hid (show 0 ≤ ix xs i ∧ ix xs i ≤ 99 by rw [hx]; exact hin2)
                have n1 : ¬ x < 0 := by omega
                have n2 : ¬ 99 < x := by omega
                clear hx hin2 HD
                go_wp2_with fail
                go_roundg g1
                case measure => omega
                case rel => exact ⟨i + 1, by omega, by go_num, Lib.hid ⟨HW.out.1, fun j hj => by
                  by_cases e : j = i
                  · subst e; exact HS.out
                  · exact HW.out.2 j (by omega)⟩⟩
              · have HS : Hid (dtx m xs = []) := Lib.hid (by
                  rw [HD.out, if_neg (fun q => hin2 (by rw [← hx]; exact allN_cons.1 q i hin))])
                have HXF := Lib.hid (hx1.trans HW.out.1)
                clear hx HD HW
                by_cases n1 : x < 0
                · clear hin2
                  go_wp2_with fail
                  go_ret
                  exact ⟨by rw [HS.out]; rfl, HXF.out⟩
                · have n2 : 99 < x := by omega
                  clear hin2
                  go_wp2_with fail
                  go_ret
                  exact ⟨by rw [HS.out]; rfl, HXF.out⟩
            · have hin' : ¬ (i : Int) < (xs.length : Nat) := by omega
              obtain rfl : i = xs.length := by omega
              have hall : allN xs = true := allN_cons.2 HW.out.2
              have HR := Lib.hid (fun W (q : Ext w W) => numbersText_any A c xs W (H0.out.ext q) HW.out.2 (by omega))
              have HE0 : Hid (dtx m xs = if xs.length = 0 then nameT m else nameT m ++ [32] ++ rowT xs) := Lib.hid (by rw [HD.out, if_pos hall])
              have HXF := Lib.hid (hx1.trans HW.out.1)
              have HW2 := Lib.hid HW.out.1
              have HNM := Lib.hid (fun W (q : Ext w1 W) => (HN.out.ext (hx1.trans q)) m hm5)
              have hnm := (HN.out.ext HXF.out) m hm5
              obtain ⟨N, hN⟩ : ∃ N, nameT m = N := ⟨_, rfl⟩
              have hNl : N.length ≤ 5 := by
                rw [← hN]; unfold nameT
                split
                · decide
                · split
                  · decide
                  · split
                    · decide
                    · split <;> decide
              obtain ⟨R, hR⟩ : ∃ R, rowT xs = R := ⟨_, rfl⟩
              have hRl := rowU_len (allN_cons.1 hall) xs.length (Nat.le_refl _)
              rw [rowU_all, hR] at hRl
              obtain ⟨N2, hN2⟩ : ∃ r, N ++ [32] = r := ⟨_, rfl⟩
              obtain ⟨N3, hN3⟩ : ∃ r, N2 ++ R = r := ⟨_, rfl⟩
              have e1 : ((⟨N.toArray⟩ : ByteArray) ++ ⟨#[32]⟩) = ⟨N2.toArray⟩ := by rw [← hN2]; exact tx_add N [32]
              have e2 : ((⟨N2.toArray⟩ : ByteArray) ++ ⟨R.toArray⟩) = ⟨N3.toArray⟩ := by rw [← hN3]; exact tx_add N2 R
              have hl2 : N2.length ≤ 6 := by rw [← hN2, List.length_append, List.length_singleton]; omega
              rw [hR] at HR HE0
              rw [hN] at hnm HE0 HNM
              rw [hN2, hN3] at HE0
              have hle2 := HLM.out
              clear hN hR hN2 hN3 hall HC HD HW hA
              unfold tx at HR hnm HNM
              by_cases m2 : mo = 0
              · subst m2
                have HE : Hid (dtx m xs = N) := Lib.hid (by rw [HE0.out, if_pos (by omega)])
                clear HE0 hle2
                have hm5' : (m : Int) < 5 := by omega
                go_wp2_with fail
                go_ret
                exact ⟨by rw [HE.out]; rfl, HXF.out⟩
              · have m2' : (((mo : Nat) : Int) == 0) = false := beq_eq_false_iff_ne.2 (by omega)
                have HE : Hid (dtx m xs = N3) := Lib.hid (by rw [HE0.out, if_neg (by omega)])
                clear HE0 hle2
                have hm5' : (m : Int) < 5 := by omega
                have HR2 := Lib.hid (fun W (q : Ext w1 W) => HR.out W (hx1.trans q))
                have HDW := Lib.hid (HW2.out.drew')
                have nl1 : ¬ 9223372036854775807 < N.length + 1 := by omega
                have nl2 : ¬ 9223372036854775807 < N2.length + R.length := by omega
                go_wp2_with fail
                go_region_law (go_simp; go_at_call 66; refine (HR2.out _ HDW.out).mono ?_; rintro e w5 ⟨rfl, hx5⟩; (try unfold tx); have hnm5 := HNM.out w5 (HDW.out.trans hx5); obtain ⟨pz0, pz1⟩ := HB.out w5 (HDW.out.trans hx5))
                all_goals
                  go_wp2_with fail
                  go_simp
                  go_ret
                  exact ⟨by rw [HE.out]; rfl, (hx1.trans HDW.out).trans hx5⟩
  · have HS : Hid (dtx kd xs = []) := Lib.hid (by
      unfold dtx dtB
      rw [if_neg (by
        rw [decide_eq_false (show ¬ kd = 0 by omega), decide_eq_false (show ¬ kd = 1 by omega), decide_eq_false (show ¬ (2 ≤ kd ∧ kd ≤ 4) by omega)]
        simp)])
    by_cases hk1 : kd < 0
    · go_enter Tryz.func60, Tryz.ntmps60
      go_wp2
      go_ret
      exact ⟨by rw [HS.out]; rfl, hx1⟩
    · have hk2 : 4 < kd := by omega
      go_enter Tryz.func60, Tryz.ntmps60
      go_wp2
      go_ret
      exact ⟨by rw [HS.out]; rfl, hx1⟩
end Go.Proofs.YtnalcgcdohlfiaaGreatDoor
