/- What is proved: texts of journals: spec.JournalText, impl.JournalText. Conditions: those of each contract. -/
import Derived.Test.YtcejdgnfmcgopaaGreatDoorDt
import Derived.Test.YtcejdgnfmcgopaaGreatDoorDls
namespace Go.Proofs.YtcejdgnfmcgopaaGreatDoor
open Go.RowKit
def dti (ds : List (Int × List Int)) (i : Nat) : List UInt8 := dtx (dk ds i) (dx ds i)
def jU (ds : List (Int × List Int)) : Nat → List UInt8
  | 0 => []
  | i + 1 => jU ds i ++ dti ds i ++ [10]
/-- the text of a journal -/
def jtx (ds : List (Int × List Int)) : List UInt8 := if ∀ i, i < ds.length → dti ds i ≠ [] then jU ds ds.length else []
theorem dtx_len (k : Int) (xs : List Int) : (dtx k xs).length ≤ 24 := by
  unfold dtx
  by_cases h : dtB k xs = true
  · rw [if_pos h]
    have hn : (nameT k).length ≤ 5 := by
      unfold nameT
      split
      · decide
      · split
        · decide
        · split
          · decide
          · split <;> decide
    split
    · omega
    · unfold dtB at h
      rw [Bool.and_eq_true] at h
      have hl : xs.length ≤ 6 := by
        have h2 := h.2
        simp only [Bool.or_eq_true, Bool.and_eq_true, decide_eq_true_eq] at h2
        omega
      have := rowU_len (allN_cons.1 h.1) xs.length (Nat.le_refl _)
      rw [rowU_all] at this
      rw [List.length_append, List.length_append, List.length_singleton]
      omega
  · rw [if_neg h]; simp
theorem jU_len (ds : List (Int × List Int)) : ∀ n, (jU ds n).length ≤ 25 * n := by
  intro n
  induction n with
  | zero => simp [jU]
  | succ n ih =>
    have := dtx_len (dk ds n) (dx ds n)
    show (jU ds n ++ dti ds n ++ [10]).length ≤ _
    rw [List.length_append, List.length_append, List.length_singleton]
    unfold dti
    omega
set_option maxRecDepth 100000 in
set_option maxHeartbeats 4000000 in
theorem sJournalText_any (A : Option Addr) (c : Nat) (ds : List (Int × List Int)) (w : World) (h : DeedsM w A c ds) (hz : ds.length ≤ 1048576) (hr : ∀ i, i < ds.length → (dx ds i).length ≤ 1048576) :
    Calls Tryz.prog 73 #[.slice A ds.length c] w fun e w' => e = .returned (tx (jtx ds)) ∧ Ext w w' := by
  obtain ⟨bX, oX, RX, rX, hA, hk, hx, hi⟩ := h.parts
  have hc2 := h.2.1
  have hc1 := h.1
  unfold maxLen at hc2
  have HRX := Lib.hid (fun W (q : Ext w W) i (hlt : i < ds.length) => And.intro (q.cell (hk i hlt)) (And.intro (q.cell (hx i hlt)) ((hi i hlt).ext q)))
  have HR := Lib.hid hr
  have HL := Lib.hid (jU_len ds)
  clear h hk hx hi hr
  go_enter Tryz.func73, Tryz.ntmps73
  go_wp2
  go_loopg [3, 4] ds.length (fun g s3 s4 wr => ∃ (i : Nat), i + g = ds.length ∧ s4 = .int .i64 i ∧ s3 = tx (jU ds i) ∧ Hid (Ext w wr ∧ ∀ j, j < i → dti ds j ≠ []))
  case atStart => exact ⟨0, by omega, rfl, rfl, Lib.hid ⟨Ext.refl _, fun j hj => absurd hj (by omega)⟩⟩
  case round =>
    obtain ⟨i, hi, rfl, rfl, HW⟩ := hrel
    by_cases hin : i < ds.length
    · obtain ⟨g1, rfl⟩ : ∃ g', gk = g' + 1 := ⟨gk - 1, by omega⟩
      have hin' : (i : Int) < (ds.length : Nat) := by omega
      obtain rfl := hA (by omega)
      obtain ⟨c0, c1, -⟩ := HRX.out wr HW.out.1 i hin
      have HC := Lib.hid (fun W (q : Ext w W) => sDeedText_any (dk ds i) (RX i) (rX i) (dx ds i) W (HRX.out W q i hin).2.2 (Nat.le_trans (HR.out i hin) (by omega)))
      have HCL := Lib.hid (fun W (q : Ext w W) => (And.intro (HRX.out W q i hin).1 (HRX.out W q i hin).2.1))
      have htl := dtx_len (dk ds i) (dx ds i)
      have hjl := HL.out i
      have hst : jU ds (i + 1) = jU ds i ++ dti ds i ++ [10] := rfl
      have hti : dti ds i = dtx (dk ds i) (dx ds i) := rfl
      obtain ⟨kd, hkd⟩ : ∃ n, dk ds i = n := ⟨_, rfl⟩
      obtain ⟨n, hn⟩ : ∃ n, (dx ds i).length = n := ⟨_, rfl⟩
      obtain ⟨T, hT⟩ : ∃ T, dtx (dk ds i) (dx ds i) = T := ⟨_, rfl⟩
      obtain ⟨J, hJ⟩ : ∃ T, jU ds i = T := ⟨_, rfl⟩
      rw [hT] at HC htl hti
      rw [hti] at hst
      have HTI := Lib.hid hti
      rw [hJ] at hst hjl ⊢
      rw [hkd] at c0 HC HCL
      rw [hn] at c1 HC HCL
      clear hT hkd hn hti hJ
      obtain ⟨J2, hJ2⟩ : ∃ r, J ++ T = r := ⟨_, rfl⟩
      obtain ⟨J3, hJ3⟩ : ∃ r, J2 ++ [10] = r := ⟨_, rfl⟩
      have e1 : ((⟨J.toArray⟩ : ByteArray) ++ ⟨T.toArray⟩) = ⟨J2.toArray⟩ := by rw [← hJ2]; exact tx_add J T
      have e2 : ((⟨J2.toArray⟩ : ByteArray) ++ ⟨#[10]⟩) = ⟨J3.toArray⟩ := by rw [← hJ3]; exact tx_add J2 [10]
      have hl2 : J2.length = J.length + T.length := by rw [← hJ2, List.length_append]
      have HST : Hid (jU ds (i + 1) = J3) := Lib.hid (by rw [hst, hJ2, hJ3])
      have b1 : ¬ 9223372036854775807 < J.length + T.length := by omega
      have b2 : ¬ 9223372036854775807 < J2.length + 1 := by omega
      clear hJ2 hJ3 hst
      unfold tx at HC
      unfold tx
      go_wp2_with fail
      refine (HC.out _ HW.out.1).mono ?_
      rintro e w5 ⟨rfl, hx5⟩
      obtain ⟨d0, d1⟩ := HCL.out w5 (HW.out.1.trans hx5)
      by_cases hT0 : T = []
      · subst hT0
        have HE : Hid (jtx ds = []) := Lib.hid (by
          unfold jtx
          rw [if_neg (fun q => q i hin HTI.out)])
        go_wp2_with fail
        go_ret
        exact ⟨by rw [HE.out]; rfl, HW.out.1.trans hx5⟩
      · have hne : (⟨T.toArray⟩ : ByteArray) ≠ ⟨#[]⟩ := fun q => hT0 (by
          have := congrArg (fun z => z.data.toList) q
          simpa using this)
        have hne' : T.isEmpty = false := by
          cases T with
          | nil => exact absurd rfl hT0
          | cons x l => rfl
        go_wp2_with fail
        refine (HC.out _ (HW.out.1.trans hx5)).mono ?_
        rintro e w6 ⟨rfl, hx6⟩
        go_wp2_with fail
        go_roundg g1
        case measure => omega
        case rel => exact ⟨i + 1, by omega, by go_num, by rw [HST.out]; rfl, Lib.hid ⟨(HW.out.1.trans hx5).trans hx6, fun j hj => by
          by_cases e : j = i
          · subst e; rw [HTI.out]; exact hT0
          · exact HW.out.2 j (by omega)⟩⟩
    · have hin' : ¬ (i : Int) < (ds.length : Nat) := by omega
      obtain rfl : i = ds.length := by omega
      have HE : Hid (jtx ds = jU ds ds.length) := Lib.hid (if_pos HW.out.2)
      clear hA
      go_wp2
      go_ret
      exact ⟨by rw [HE.out]; rfl, HW.out.1⟩
set_option maxRecDepth 100000 in
set_option maxHeartbeats 4000000 in
theorem iJournalText_any (A : Option Addr) (c : Nat) (ds : List (Int × List Int)) (w : World) (h : DeedsM w A c ds) (hn : Names w) (hz : ds.length ≤ 1048576) (hr : ∀ i, i < ds.length → (dx ds i).length ≤ 1048576) :
    Calls Tryz.prog 35 #[.slice A ds.length c] w fun e w' => e = .returned (tx (jtx ds)) ∧ Ext w w' := by
  obtain ⟨bX, oX, RX, rX, hA, hk, hx, hi⟩ := h.parts
  have hc2 := h.2.1
  have hc1 := h.1
  unfold maxLen at hc2
  have HRX := Lib.hid (fun W (q : Ext w W) i (hlt : i < ds.length) => And.intro (q.cell (hk i hlt)) (And.intro (q.cell (hx i hlt)) ((hi i hlt).ext q)))
  have HR := Lib.hid hr
  have HN := Lib.hid hn
  have HL := Lib.hid (jU_len ds)
  clear h hk hx hi hr hn
  go_enter Tryz.func35, Tryz.ntmps35
  go_wp2
  go_loopg [3, 9] ds.length (fun g s3 s9 wr => ∃ (i : Nat), i + g = ds.length ∧ s9 = .int .i64 i ∧ s3 = tx (jU ds i) ∧ Hid (Ext w wr ∧ ∀ j, j < i → dti ds j ≠ []))
  case atStart => exact ⟨0, by omega, rfl, rfl, Lib.hid ⟨Ext.refl _, fun j hj => absurd hj (by omega)⟩⟩
  case round =>
    obtain ⟨i, hi, rfl, rfl, HW⟩ := hrel
    by_cases hin : i < ds.length
    · obtain ⟨g1, rfl⟩ : ∃ g', gk = g' + 1 := ⟨gk - 1, by omega⟩
      have hin' : (i : Int) < (ds.length : Nat) := by omega
      obtain rfl := hA (by omega)
      have HCL := Lib.hid (fun W (q : Ext w W) => (And.intro (HRX.out W q i hin).1 (HRX.out W q i hin).2.1))
      obtain ⟨c0, c1⟩ := HCL.out wr HW.out.1
      have HC := Lib.hid (fun W (q : Ext w W) => deedText_any (dk ds i) (RX i) (rX i) (dx ds i) W (HRX.out W q i hin).2.2 (HN.out.ext q) (Nat.le_trans (HR.out i hin) (by omega)))
      have htl := dtx_len (dk ds i) (dx ds i)
      have hjl := HL.out i
      have hst : jU ds (i + 1) = jU ds i ++ dti ds i ++ [10] := rfl
      have hti : dti ds i = dtx (dk ds i) (dx ds i) := rfl
      obtain ⟨kd, hkd⟩ : ∃ n, dk ds i = n := ⟨_, rfl⟩
      obtain ⟨n, hn⟩ : ∃ n, (dx ds i).length = n := ⟨_, rfl⟩
      obtain ⟨T, hT⟩ : ∃ T, dtx (dk ds i) (dx ds i) = T := ⟨_, rfl⟩
      obtain ⟨J, hJ⟩ : ∃ T, jU ds i = T := ⟨_, rfl⟩
      rw [hT] at HC htl hti
      rw [hti] at hst
      have HTI := Lib.hid hti
      rw [hJ] at hst hjl ⊢
      rw [hkd] at c0 HC HCL
      rw [hn] at c1 HC HCL
      clear hT hkd hn hti hJ
      obtain ⟨J2, hJ2⟩ : ∃ r, T ++ [10] = r := ⟨_, rfl⟩
      obtain ⟨J3, hJ3⟩ : ∃ r, J ++ J2 = r := ⟨_, rfl⟩
      have e1 : ((⟨T.toArray⟩ : ByteArray) ++ ⟨#[10]⟩) = ⟨J2.toArray⟩ := by rw [← hJ2]; exact tx_add T [10]
      have e2 : ((⟨J.toArray⟩ : ByteArray) ++ ⟨J2.toArray⟩) = ⟨J3.toArray⟩ := by rw [← hJ3]; exact tx_add J J2
      have hl2 : J2.length = T.length + 1 := by rw [← hJ2, List.length_append, List.length_singleton]
      have HST : Hid (jU ds (i + 1) = J3) := Lib.hid (by rw [hst, ← hJ3, ← hJ2, List.append_assoc])
      have b1 : ¬ 9223372036854775807 < T.length + 1 := by omega
      have b2 : ¬ 9223372036854775807 < J.length + J2.length := by omega
      clear hJ2 hJ3 hst
      unfold tx at HC
      unfold tx
      have hb0 := heap_alloc_new wr (.cells #[.int .i64 kd, .slice (RX i) n (rX i)] 56)
      obtain ⟨z0, z1⟩ := two_cells hb0
      have hx4 : Ext wr (wr.alloc (.cells #[.int .i64 kd, .slice (RX i) n (rX i)] 56)) := Ext.alloc _ _
      go_wp2_with fail
      refine (HC.out _ (HW.out.1.trans hx4)).mono ?_
      rintro e w5 ⟨rfl, hx5⟩
      by_cases hT0 : T = []
      · subst hT0
        have HE : Hid (jtx ds = []) := Lib.hid (by
          unfold jtx
          rw [if_neg (fun q => q i hin HTI.out)])
        go_wp2_with fail
        go_ret
        exact ⟨by rw [HE.out]; rfl, HW.out.1.trans (hx4.trans hx5)⟩
      · have hne' : T.isEmpty = false := by
          cases T with
          | nil => exact absurd rfl hT0
          | cons x l => rfl
        go_wp2_with fail
        go_roundg g1
        case measure => omega
        case rel => exact ⟨i + 1, by omega, by go_num, by rw [HST.out]; rfl, Lib.hid ⟨HW.out.1.trans (hx4.trans hx5), fun j hj => by
          by_cases e : j = i
          · subst e; rw [HTI.out]; exact hT0
          · exact HW.out.2 j (by omega)⟩⟩
    · have hin' : ¬ (i : Int) < (ds.length : Nat) := by omega
      obtain rfl : i = ds.length := by omega
      have HE : Hid (jtx ds = jU ds ds.length) := Lib.hid (if_pos HW.out.2)
      clear hA
      go_wp2
      go_ret
      exact ⟨by rw [HE.out]; rfl, HW.out.1⟩
end Go.Proofs.YtcejdgnfmcgopaaGreatDoor
