/- What is proved: marks of texts (markText, markStringS, heldStringS), and how a list of texts that comes in is opened. Conditions: sizes. -/
import Derived.Test.YtcejdgnfmcgopaaGreatDoorTs
namespace Go.Proofs.YtcejdgnfmcgopaaGreatDoor
open Go.RowKit
/-- the digits of a number, ahead of what stands -/
def mt (n : Nat) (acc : List UInt8) : List UInt8 := if h : n = 0 then acc else mt (n / 10) (UInt8.ofNat (48 + n % 10) :: acc)
termination_by n
decreasing_by omega
theorem mt_zero (acc : List UInt8) : mt 0 acc = acc := by rw [mt]; simp
theorem mt_step {n : Nat} (h : n ≠ 0) (acc : List UInt8) : mt n acc = mt (n / 10) (UInt8.ofNat (48 + n % 10) :: acc) := by rw [mt, dif_neg h]
/-- the mark of a number -/
def mT (k : Int) : List UInt8 := if k ≤ 0 then [109, 48] else 109 :: mt k.toNat []
set_option maxRecDepth 100000 in
set_option maxHeartbeats 2000000 in
theorem markText_any (k : Int) (w : World) (hk0 : 0 ≤ k) (hk1 : k ≤ 1000000000000) : Calls Tryz.prog 72 #[.int .i64 k] w fun e w' => e = .returned (tx (mT k)) ∧ Ext w w' := by
  by_cases h0 : k ≤ 0
  · have HE : Hid (mT k = [109, 48]) := Lib.hid (if_pos h0)
    go_enter Tryz.func72, Tryz.ntmps72
    go_wp2
    go_ret
    exact ⟨by rw [HE.out]; rfl, Ext.refl _⟩
  · have HE : Hid (mT k = 109 :: mt k.toNat []) := Lib.hid (if_neg h0)
    obtain ⟨n, rfl⟩ : ∃ n : Nat, k = n := ⟨k.toNat, by omega⟩
    go_enter Tryz.func72, Tryz.ntmps72
    go_wp2
    go_loopg [0, 3] n (fun g s0 s3 wr => ∃ acc : List UInt8, acc.length + g ≤ n ∧ s0 = .int .i64 g ∧ s3 = tx acc ∧ Hid (Ext w wr ∧ mt g acc = mt n []))
    case atStart => exact ⟨[], by simp, rfl, rfl, Lib.hid ⟨Ext.refl _, rfl⟩⟩
    case round =>
      obtain ⟨acc, hgn, rfl, rfl, HW⟩ := hrel
      by_cases hg : 0 < gk
      · have hg' : (0 : Int) < (gk : Nat) := by omega
        have hq : (gk : Int).tdiv 10 = ((gk / 10 : Nat) : Int) := by rw [Int.tdiv_eq_ediv_of_nonneg (by omega)]; omega
        have hr : (gk : Int).tmod 10 = ((gk % 10 : Nat) : Int) := by rw [Int.tmod_eq_emod_of_nonneg (by omega)]; omega
        have HM := Lib.hid (mt_step (show gk ≠ 0 by omega) acc)
        have hdl : gk / 10 < gk := by omega
        obtain ⟨a, ha⟩ : ∃ a, gk / 10 = a := ⟨_, rfl⟩
        obtain ⟨b, hb⟩ : ∃ a, gk % 10 = a := ⟨_, rfl⟩
        have hb9 : b < 10 := by omega
        rw [ha] at hq hdl HM
        rw [hb] at hr HM
        have wb : IntKind.i64.wrap (b : Int) = b := IntWalk.i64_in _ ⟨by omega, by omega⟩
        have wa : IntKind.i64.wrap (a : Int) = a := IntWalk.i64_in _ ⟨by omega, by omega⟩
        have wc : IntKind.i64.wrap (48 + (b : Int)) = 48 + b := IntWalk.i64_in _ ⟨by omega, by omega⟩
        have wd : IntKind.u8.wrap (48 + (b : Int)) = 48 + b := by rw [IntKind.wrap_u8]; omega
        have hcv := conv_one wr (48 + b) (by omega) (48 + ((b : Nat) : Int)) (by omega)
        obtain ⟨z, hz⟩ : ∃ z, UInt8.ofNat (48 + b) = z := ⟨_, rfl⟩
        rw [hz] at hcv HM
        obtain ⟨R, hR⟩ : ∃ R, z :: acc = R := ⟨_, rfl⟩
        rw [hR] at HM
        have hRl : R.length = acc.length + 1 := by rw [← hR]; rfl
        have hc2 : ((⟨[z].toArray⟩ : ByteArray) ++ ⟨acc.toArray⟩) = ⟨R.toArray⟩ := by rw [← hR]; exact tx_add [z] acc
        have hc3 : ((⟨#[z]⟩ : ByteArray) ++ ⟨acc.toArray⟩) = ⟨R.toArray⟩ := hc2
        unfold tx
        clear ha hb hz hR hc2
        go_wp2
        go_roundg a
        case measure => omega
        case rel => exact ⟨R, by omega, by go_num, rfl, Lib.hid ⟨HW.out.1.alloc' _, by rw [← HM.out]; exact HW.out.2⟩⟩
      · have hg' : ¬ (0 : Int) < (gk : Nat) := by omega
        have HF : Hid (mt n [] = acc) := Lib.hid (by rw [← HW.out.2, show gk = 0 by omega, mt_zero])
        obtain ⟨R, hR⟩ : ∃ R, (109 : UInt8) :: acc = R := ⟨_, rfl⟩
        have hc3 : ((⟨#[109]⟩ : ByteArray) ++ ⟨acc.toArray⟩) = ⟨R.toArray⟩ := by rw [← hR]; exact tx_add [109] acc
        have HR : Hid (mT (n : Int) = R) := Lib.hid (by rw [HE.out, Int.toNat_natCast, HF.out, hR])
        unfold tx
        clear hR
        go_wp2
        go_ret
        exact ⟨by rw [HR.out]; rfl, HW.out.1⟩
/-- texts of which the first i are marks -/
def mixT (k : Int) (ts : List (List UInt8)) (i : Nat) : List (List UInt8) := (List.range ts.length).map fun j => if j < i then mT (k + (j : Nat)) else ts.getD j []
theorem mixT_len (k : Int) (ts : List (List UInt8)) (i : Nat) : (mixT k ts i).length = ts.length := by simp [mixT]
theorem mixT_at {k : Int} {ts : List (List UInt8)} {i j : Nat} (h : j < ts.length) : (mixT k ts i).getD j [] = if j < i then mT (k + (j : Nat)) else ts.getD j [] := by
  unfold mixT
  rw [List.getD_eq_getElem?_getD, List.getElem?_map, List.getElem?_range h]
  rfl
def markT (k : Int) (ts : List (List UInt8)) : List (List UInt8) := mixT k ts ts.length
theorem LeafT.mark {w : World} {g c i : Nat} {k : Int} {ts : List (List UInt8)} (h : LeafT w (.slice (some ⟨g, 0, none⟩) ts.length c) (mixT k ts i)) (hi : i < ts.length) :
    w.cell? ⟨g, i, none⟩ = some (tx (ts.getD i [])) ∧ w.frozen? ⟨g, i, none⟩ = false ∧ g < w.heap.size ∧
    LeafT (w.setCell ⟨g, i, none⟩ (tx (mT (k + i)))) (.slice (some ⟨g, 0, none⟩) ts.length c) (mixT k ts (i + 1)) := by
  obtain ⟨A, c', e, h1, h2, h3⟩ := h
  injection e with e1 e2 e3
  subst e1; subst e3
  obtain ⟨g', cs, ea, hb, hc⟩ := h3 (by rw [mixT_len]; omega)
  injection ea with ea; injection ea with ea; subst ea
  rw [mixT_len] at h1 hc
  have hci := hc i hi
  rw [mixT_at hi, if_neg (by omega)] at hci
  refine ⟨by rw [cell_cells hb, hci], frozen_cells hb i, heap_lt hb, _, _, by rw [mixT_len], by rw [mixT_len]; exact h1, h2, fun _ => ⟨g, cs.setIfInBounds i (tx (mT (k + i))), rfl, ?_, fun j hj => ?_⟩⟩
  · simp [World.setCell, Array.getElem?_modify, hb]
  · rw [mixT_len] at hj
    have hsz : i < cs.size := (Array.getElem?_eq_some_iff.1 hci).1
    rw [mixT_at hj, Array.getElem?_setIfInBounds]
    by_cases e : i = j
    · subst e; simp [hsz]
    · rw [if_neg e, hc j hj, mixT_at hj]
      by_cases hlt : j < i
      · rw [if_pos hlt, if_pos (by omega)]
      · rw [if_neg hlt, if_neg (by omega)]
theorem mixT_0 (k : Int) (ts : List (List UInt8)) : mixT k ts 0 = ts := by
  refine List.ext_getElem? fun j => ?_
  by_cases h : j < ts.length
  · have e := mixT_at (k := k) (i := 0) h
    rw [if_neg (by omega)] at e
    rw [List.getD_eq_getElem?_getD, List.getD_eq_getElem?_getD, List.getElem?_eq_getElem (by rw [mixT_len]; exact h), List.getElem?_eq_getElem h] at e
    rw [List.getElem?_eq_getElem (by rw [mixT_len]; exact h), List.getElem?_eq_getElem h]
    exact congrArg some e
  · rw [List.getElem?_eq_none (by rw [mixT_len]; omega), List.getElem?_eq_none (by omega)]
set_option maxHeartbeats 2000000 in
theorem markStringS_any (A : Option Addr) (c : Nat) (ts : List (List UInt8)) (k : Int) (w : World) (h : LeafT w (.slice A ts.length c) ts) (hk0 : 0 ≤ k) (hk1 : k ≤ 100000000000) (hn : ts.length ≤ 10000000) :
    Calls Tryz.prog 26 #[.slice A ts.length c, .int .i64 k] w fun e w' => e = .returned (.int .i64 (k + ts.length)) ∧ LeafT w' (.slice A ts.length c) (markT k ts) ∧ ExtS (· ∈ lb (.slice A ts.length c)) w w' := by
  have hA : 0 < ts.length → ∃ g, A = some ⟨g, 0, none⟩ := fun h0 => by
    obtain ⟨A', c', e, _, _, h3⟩ := h
    injection e with e1 _ _
    subst e1
    obtain ⟨g, _, e, _⟩ := h3 h0
    exact ⟨g, e⟩
  go_enter Tryz.func26, Tryz.ntmps26
  go_wp2
  go_loopg [1, 5] ts.length (fun g s1 s5 wr => ∃ i : Nat, i + g = ts.length ∧ s5 = .int .i64 i ∧ s1 = .int .i64 (k + i) ∧ Hid (ExtS (· ∈ lb (.slice A ts.length c)) w wr ∧ LeafT wr (.slice A ts.length c) (mixT k ts i)))
  case atStart => exact ⟨0, by omega, rfl, by go_num, Lib.hid ⟨ExtS.refl _ _, by rw [mixT_0]; exact h⟩⟩
  case round =>
    obtain ⟨i, hi, rfl, rfl, HW⟩ := hrel
    by_cases hin : i < ts.length
    · obtain ⟨g', rfl⟩ : ∃ g', gk = g' + 1 := ⟨gk - 1, by omega⟩
      have hin' : (i : Int) < (ts.length : Nat) := by omega
      obtain ⟨gb, rfl⟩ := hA (by omega)
      have HM := Lib.hid (fun W => markText_any (k + i) W (by omega) (by omega))
      obtain ⟨M, hM⟩ : ∃ M, mT (k + i) = M := ⟨_, rfl⟩
      have HMM := Lib.hid hM
      rw [hM] at HM
      clear hA hM h
      go_wp2_with fail
      refine (HM.out _).mono ?_
      rintro e w1 ⟨rfl, hx1⟩
      obtain ⟨c1, c2, c3, c4⟩ := (HW.out.2.ext hx1).mark hin
      rw [HMM.out] at c4
      have HL := Lib.hid c4
      have HX1 := Lib.hid hx1
      obtain ⟨T, hT⟩ : ∃ T, ts.getD i [] = T := ⟨_, rfl⟩
      rw [hT] at c1
      unfold tx at c1 HL ⊢
      clear c4 c3 hx1 hT
      go_wp2
      go_roundg g'
      case measure => omega
      case rel =>
        refine ⟨i + 1, by omega, by go_num, by first | rfl | go_num | (congr 1; omega), Lib.hid ⟨(HW.out.1.trans (ExtS.of HX1.out)).trans (ExtS.only (Only.set _ ?_ _)), HL.out⟩⟩
        obtain ⟨m, hm⟩ : ∃ m, ts.length = m + 1 := ⟨ts.length - 1, by omega⟩
        rw [hm]; simp [lb]
    · have hin' : ¬ (i : Int) < (ts.length : Nat) := by omega
      clear hA h
      go_wp2
      go_ret
      have e : i = ts.length := by omega
      subst e
      exact ⟨rfl, HW.out.2, HW.out.1⟩
set_option maxHeartbeats 4000000 in
theorem heldStringS_any (A : Option Addr) (c : Nat) (ts : List (List UInt8)) (k : Int) (w : World) (h : Txts w A c (markT k ts)) (hk0 : 0 ≤ k) (hk1 : k ≤ 100000000000) (hn : ts.length ≤ 10000000) :
    Calls Tryz.prog 27 #[.slice A ts.length c, .int .i64 k] w fun e w' => e = .returned (.int .i64 (k + ts.length)) ∧ Ext w w' := by
  obtain ⟨h1, h2, b, o, hA, hc⟩ := h
  unfold markT at h1 hA hc
  rw [mixT_len] at h1 hA hc
  unfold maxLen at h2
  have HC := Lib.hid (fun W (q : Ext w W) i (hi : i < ts.length) => (q.cell (hc i hi)).trans (congrArg (fun x => some (tx x)) ((mixT_at (k := k) hi).trans (if_pos hi))))
  clear hc
  go_enter Tryz.func27, Tryz.ntmps27
  go_wp2
  go_loopg [1, 5] ts.length (fun g s1 s5 wr => ∃ i : Nat, i + g = ts.length ∧ s5 = .int .i64 i ∧ s1 = .int .i64 (k + i) ∧ Hid (Ext w wr))
  case atStart => exact ⟨0, by omega, rfl, by go_num, Lib.hid (Ext.refl _)⟩
  case round =>
    obtain ⟨i, hi, rfl, rfl, HW⟩ := hrel
    by_cases hin : i < ts.length
    · obtain ⟨g', rfl⟩ : ∃ g', gk = g' + 1 := ⟨gk - 1, by omega⟩
      have hin' : (i : Int) < (ts.length : Nat) := by omega
      obtain ⟨rfl, -⟩ := hA (by omega)
      have r1 := HC.out wr HW.out i hin
      have HM := Lib.hid (fun W => markText_any (k + i) W (by omega) (by omega))
      obtain ⟨M, hM⟩ : ∃ M, mT (k + i) = M := ⟨_, rfl⟩
      rw [hM] at HM r1
      unfold tx at r1
      have hMM : (M != M) = false := bne_self_eq_false M
      clear hA hM
      go_wp2_with fail
      go_region_law (go_simp; go_at_call 72; refine (HM.out _).mono ?_; rintro e w5 ⟨rfl, hx5⟩; unfold tx; (try have r2 := hx5.cell r1))
      all_goals
        go_wp2
        go_roundg g'
        case measure => omega
        case rel => exact ⟨i + 1, by omega, by go_num, by first | rfl | go_num | (congr 1; omega), Lib.hid ((HW.out.drew').trans hx5)⟩
    · have hin' : ¬ (i : Int) < (ts.length : Nat) := by omega
      clear hA
      go_wp2
      go_ret
      have e : i = ts.length := by omega
      subst e
      exact ⟨rfl, HW.out⟩
section
open Go.ChangeShapes Go.WideShapes Go.ChangeAt Go.Deep
variable {H : Type} {enc : TypeId × Value → H} {W : World} {base : Nat}
theorem cellsT : Tryz.prog.cellsOf 9 = 1 := by kernel_rfl
set_option maxRecDepth 100000 in
/-- AN ARGUMENT that is a list of texts -/
theorem read_strs {r : Reach} {b0 : Nat} {v : Value} {d : DataW H} {ps : List MemPlace} (hval : Value.okWide Tryz.prog W r b0 27 v) (h : DataW.Trod enc Tryz.prog W base (fun _ => true) true 27 v d ps) :
    ∃ A c ts, v = .slice A (List.length ts) c ∧ TxW W A c ts := by
  obtain ⟨a0, len0, cap0, rfl⟩ := okWide_slice Tryz.underlying27 hval
  obtain ⟨fuel, hf⟩ := h
  rcases open_strings Tryz.underlying27 Tryz.underlying9 cellsT hf with ⟨hcs, _⟩ | ⟨a, len, cap, ss, hcs, hb, hl, hm, hz, -, hcell, hsz⟩
  · simp [Value.cells] at hcs
    obtain ⟨rfl, rfl, rfl⟩ := hcs
    exact ⟨none, 0, [], rfl, Nat.le_refl _, Nat.zero_le _, 0, 0, fun h => absurd h (by simp), fun j hj => absurd hj (by simp)⟩
  · simp [Value.cells] at hcs
    obtain ⟨rfl, rfl, rfl⟩ := hcs
    simp only [if_true] at hz
    have hD : ((List.range len0).map fun i => (ss.getD i ByteArray.empty).data.toList).length = len0 := by simp
    refine ⟨some a, cap0, (List.range len0).map fun i => (ss.getD i ByteArray.empty).data.toList, by rw [hD], by rw [hD]; exact hl, hm, ?_⟩
    by_cases h0 : len0 = 0
    · exact ⟨0, 0, fun h => absurd h (by rw [hD]; omega), fun j hj => absurd hj (by rw [hD]; omega)⟩
    · obtain ⟨b, o, s⟩ := a
      have hs : s = none := by simpa [Addr.add] using World.cell?_spot (hcell 0 (by omega))
      subst hs
      refine ⟨b, o, fun _ => rfl, fun i hi => ?_⟩
      rw [hD] at hi
      have hk : ((List.range len0).map fun i => (ss.getD i ByteArray.empty).data.toList).getD i [] = (ss.getD i ByteArray.empty).data.toList := by
        simp [List.getD_eq_getElem?_getD, hi]
      have hc := hcell i (by omega)
      rw [add_plain] at hc
      rw [hk]
      refine ⟨by rw [hc]; show _ = some (Value.string ⟨(ss.getD i ByteArray.empty).data.toList.toArray⟩); simp, ?_⟩
      have hmem : ss.getD i ByteArray.empty ∈ ss := by
        rw [List.getD_eq_getElem?_getD, List.getElem?_eq_getElem (by omega)]
        exact List.getElem_mem _
      have h8 : (ss.getD i ByteArray.empty).data.size ≤ maxLen := hsz _ hmem
      rw [Array.length_toList]
      exact h8
end
end Go.Proofs.YtcejdgnfmcgopaaGreatDoor
