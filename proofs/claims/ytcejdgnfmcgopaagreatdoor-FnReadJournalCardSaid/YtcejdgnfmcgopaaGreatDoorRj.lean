/- What is proved: impl.readDeed, impl.ReadDeed. Conditions: those of each contract; the variables of the library hold what the rows list. -/
import Derived.Test.YtcejdgnfmcgopaaGreatDoorRi
import Derived.Deep.DeepCutAuto
import Derived.Deep.CutBlock
namespace Go.Proofs.YtcejdgnfmcgopaaGreatDoor
open Go.RowKit
def cutP (c : UInt8) (L : List UInt8) : List UInt8 := (Lib.cut L [c]).1
def cutR (c : UInt8) (L : List UInt8) : List UInt8 := (Lib.cut L [c]).2.1
def cutH (c : UInt8) (L : List UInt8) : Bool := (Lib.cut L [c]).2.2
theorem cutR_le (c : UInt8) (L : List UInt8) : (cutR c L).length ≤ L.length := by
  unfold cutR Lib.cut
  split
  · simp
  · simp
theorem cutP_le (c : UInt8) (L : List UInt8) : (cutP c L).length ≤ L.length := by
  unfold cutP Lib.cut
  split
  · simp; omega
  · simp
theorem cut_any (c : UInt8) (L : List UInt8) (w : World) (hl : L.length ≤ 1048576) (hm : ∃ m, w.cell? ⟨1, 0, none⟩ = some (.int .i64 m)) :
    Calls Tryz.prog 76 #[.string ⟨L.toArray⟩, .string ⟨#[c]⟩] w fun e w' => e = .returned (.tuple #[tx (cutP c L), tx (cutR c L), .bool (cutH c L)]) ∧ Ext w w' := by
  obtain ⟨m, hm⟩ := hm
  have hsz := tx_size L
  refine (strings_Cut ⟨L.toArray⟩ ⟨#[c]⟩ m w (by omega) hm).mono ?_
  rintro e w' ⟨rfl, n, rfl⟩
  exact ⟨rfl, by apply Ext.drewN'; exact Ext.refl _⟩
/-- the five words -/
def names5 : List ByteArray := (List.range 5).map fun (j : Nat) => ⟨(nameT j).toArray⟩
def kindI (W : List UInt8) : Int := Lib.idxOfS names5 ⟨W.toArray⟩
theorem index_any (W : List UInt8) (w : World) (hn : Names w) :
    Calls Tryz.prog 110 #[.slice (some ⟨0, 0, none⟩) 5 5, .string ⟨W.toArray⟩] w fun e w' => e = .returned (.int .i64 (kindI W)) ∧ w' = w :=
  slices_Index_string 0 0 5 5 names5 ⟨W.toArray⟩ w (by decide) (by decide) (fun j hj => by
    have hj5 : j < 5 := by simpa [names5] using hj
    rw [Nat.zero_add, hn j hj5]
    unfold tx names5
    simp [List.getD, hj5])
/-- the numbers that stand behind the word -/
def cand (L : List UInt8) : Option (List Int) := if cutH 32 L = true then (match nums (spl (cutR 32 L)) with
  | some xs => if rowT xs = cutR 32 L then some xs else none
  | none => none) else some []
/-- the deed of a text -/
def rdI (L : List UInt8) : Option (Int × List Int) := match cand L with
  | none => none
  | some xs => if L ≠ [] ∧ dtx (kindI (cutP 32 L)) xs = L then some (kindI (cutP 32 L), xs) else none
/-- while a deed is read: its block m, the block of the result -/
def RdS (w : World) (m : Nat) (k : Int) (v : Value) (xs : List Int) (wx : World) : Prop :=
  wx.heap[m]? = some (.cells #[.int .i64 k, v] 56 (0, 0)) ∧ wx.heap[w.heap.size]? = some (.cells #[.int .i64 0, .slice none 0 0] 56 (0, 0)) ∧ Leaf wx v xs ∧ (∀ g ∈ lb v, w.heap.size + 1 ≤ g ∧ g ≠ m) ∧ Ext w wx ∧ w.heap.size + 1 ≤ m
theorem RdS.ext {w wx wy : World} {m : Nat} {k : Int} {v : Value} {xs : List Int} (h : RdS w m k v xs wx) (q : Ext wx wy) : RdS w m k v xs wy := by
  obtain ⟨h1, h2, h3, h4, h5, h6⟩ := h
  exact ⟨(q.block (heap_lt h1)).trans h1, (q.block (heap_lt h2)).trans h2, h3.keep (fun g hg => q.block (h3.lt hg)), h4, h5.trans q, h6⟩
set_option maxRecDepth 100000 in
set_option maxHeartbeats 4000000 in
theorem readDeed_any (L : List UInt8) (w : World) (hl : L.length ≤ 1048576) (hE : Env w) :
    Calls Tryz.prog 77 #[.string ⟨L.toArray⟩] w (RdE w (rdI L)) := by
  have HE := Lib.hid hE
  clear hE
  have hsz := tx_size L
  obtain ⟨w0, hw0⟩ : ∃ W, w.alloc (.cells #[.int .i64 0, .slice none 0 0] 56) = W := ⟨_, rfl⟩
  have hx0 : Ext w w0 := by rw [← hw0]; exact Ext.alloc _ _
  have hb := heap_alloc_new w (.cells #[.int .i64 0, .slice none 0 0] 56)
  rw [hw0] at hb
  have HB := Lib.hid (fun W (q : Ext w0 W) => (q.block (heap_lt hb)).trans hb)
  have hs0 : w0.heap.size = w.heap.size + 1 := by rw [← hw0]; simp
  have HC := Lib.hid (fun W (q : Ext w W) => cut_any 32 L W hl (HE.out.ext q).2.1)
  have hRl := cutR_le 32 L
  have hWl := cutP_le 32 L
  have HCA := Lib.hid (show cand L = if cutH 32 L = true then (match nums (spl (cutR 32 L)) with
    | some xs => if rowT xs = cutR 32 L then some xs else none
    | none => none) else some [] from rfl)
  have HRD := Lib.hid (show rdI L = match cand L with
    | none => none
    | some xs => if L ≠ [] ∧ dtx (kindI (cutP 32 L)) xs = L then some (kindI (cutP 32 L), xs) else none from rfl)
  obtain ⟨Wd, hWd⟩ : ∃ x, cutP 32 L = x := ⟨_, rfl⟩
  obtain ⟨R, hR⟩ : ∃ x, cutR 32 L = x := ⟨_, rfl⟩
  obtain ⟨hs, hhs⟩ : ∃ x, cutH 32 L = x := ⟨_, rfl⟩
  obtain ⟨K, hK⟩ : ∃ x, kindI Wd = x := ⟨_, rfl⟩
  rw [hWd, hR, hhs] at HC
  rw [hR] at HCA hRl
  rw [hhs] at HCA
  rw [hWd] at HRD hWl
  rw [hK] at HRD
  have HIX := Lib.hid (fun W (q : Ext w W) => index_any Wd W (HE.out.ext q).1)
  rw [hK] at HIX
  clear hWd hR hhs hK
  unfold tx at HC
  go_enter Tryz.func77, Tryz.ntmps77
  go_wp2_with fail
  clear hw0
  refine (HC.out _ hx0).mono ?_
  rintro e w1 ⟨rfl, hx1⟩
  go_wp2_with fail
  refine (HIX.out _ (hx0.trans hx1)).mono ?_
  rintro e w2 ⟨rfl, hw⟩
  rw [hw]
  clear hw w2
  have hs1 := hx1.size
  have HM := Lib.hid (show RdS w w1.heap.size K (.slice none 0 0) [] (w1.alloc (.cells #[.int .i64 K, .slice none 0 0] 56)) from
    ⟨heap_alloc_new _ _, HB.out _ (hx1.trans (Ext.alloc _ _)), ⟨_, _, rfl, Nat.le_refl _, Nat.zero_le _, fun q => absurd q (by simp)⟩, fun g hg => by simp [lb] at hg, hx0.trans (hx1.trans (Ext.alloc _ _)), by omega⟩)
  have HX01 := Lib.hid (hx0.trans hx1)
  obtain ⟨m, hm⟩ : ∃ m, w1.heap.size = m := ⟨_, rfl⟩
  rw [hm] at HM
  clear hx1 hx0 HB hb
  go_upto_if 20 with fail
  clear hm
  obtain ⟨w2, hw2⟩ : ∃ W, w1.alloc (.cells #[.int .i64 K, .slice none 0 0] 56) = W := ⟨_, rfl⟩
  rw [hw2] at HM ⊢
  clear hw2
  have hfail : rdI L = none → ∀ wx, (∃ v xs, RdS w m K v xs wx) → RdE w (rdI L) (.returned (.tuple #[.agg #[.int .i64 0, .slice none 0 0], .bool false])) ((wx.setCell ⟨w.heap.size, 0, none⟩ (.int .i64 0)).setCell ⟨w.heap.size, 1, none⟩ (.slice none 0 0)) := by
    rintro hr wx ⟨v, xs, h1, h2, h3, h4, h5, h6⟩
    rw [hr]
    exact ⟨_, rfl, ⟨_, _, rfl, Nat.le_refl _, Nat.zero_le _, fun q => absurd q (by simp [rx])⟩, fun g hg => by simp [lb] at hg, (h5.setCell' (p := ⟨w.heap.size, 0, none⟩) (Nat.le_refl _) _).setCell' (p := ⟨w.heap.size, 1, none⟩) (Nat.le_refl _) _⟩
  have HFL := Lib.hid hfail
  clear hfail
  have HRN := Lib.hid (fun W (q : Ext w W) => readNumbers_any R W (by omega) (HE.out.ext q))
  go_cut [] (fun wx => ∃ v xs, Hid (cand L = some xs ∧ xs.length ≤ 1048577) ∧ Hid (RdS w m K v xs wx))
  case first =>
    cases hs with
    | false =>
      go_wp2_with fail
      go_meet
      case rel => exact ⟨_, [], Lib.hid ⟨by rw [HCA.out]; simp, by simp⟩, HM⟩
    | true =>
      go_wp2_with fail
      refine (HRN.out _ HM.out.2.2.2.2.1).mono ?_
      rintro e w5 ⟨hx5, hr⟩
      have HS5 := Lib.hid (HM.out.ext hx5)
      rcases hr with ⟨hn, rfl⟩ | ⟨xs, v, hn, hxl, rfl, hLf, hLb⟩
      · have HN0 : Hid (rdI L = none) := Lib.hid (by rw [HRD.out, HCA.out, if_pos trivial, hn])
        obtain ⟨⟨f1, f2⟩, f1', ⟨f3, f4⟩, f4', f5, f6⟩ := store2 HS5.out.2.1 (.int .i64 0) (.slice none 0 0)
        clear hn hx5
        go_wp2_with fail
        refine bodyPost_ret (v := .tuple #[.agg #[.int .i64 0, .slice none 0 0], .bool false]) (by simp [results, Tryz.results77, go_sem, f5, f6]) rfl ?_
        exact HFL.out HN0.out _ ⟨_, _, HS5.out⟩
      · obtain ⟨A6, c6, rfl, -⟩ := hLf.ints
        by_cases hq : rowT xs = R
        · have HN0 : Hid (cand L = some xs) := Lib.hid (by rw [HCA.out, if_pos trivial, hn]; simp only [if_pos hq])
          have hd : decide (rowT xs = R) = true := decide_eq_true hq
          have hsz2 := HM.out.2.2.2.2.1.size
          have hmlt := heap_lt HM.out.1
          have hb5 := HS5.out.1
          obtain ⟨c0, c1⟩ := two_cells hb5
          have c2 := frozen_cells hb5 1
          have HS6 := Lib.hid (show RdS w m K (.slice A6 xs.length c6) xs (w5.setCell ⟨m, 1, none⟩ (.slice A6 xs.length c6)) from
            ⟨set_1 hb5, set_far HS5.out.2.1 (by have := HM.out.2.2.2.2.2; show w.heap.size ≠ m; omega), hLf.keep (fun g hg => Below.heap_setCell _ _ _ _ (by have := hLb g hg; show g ≠ m; omega)), fun g hg => by have := hLb g hg; have := HM.out.2.2.2.2.2; omega, HS5.out.2.2.2.2.1.setCell' (p := ⟨m, 1, none⟩) (by have := HM.out.2.2.2.2.2; show w.heap.size ≤ m; omega) _, HM.out.2.2.2.2.2⟩)
          rw [hd]
          clear hn hq hd hLf hLb hx5 hb5 hsz2 hmlt
          go_wp2_with fail
          go_meet
          case rel => exact ⟨_, xs, Lib.hid ⟨HN0.out, hxl⟩, HS6⟩
        · have HN0 : Hid (rdI L = none) := Lib.hid (by rw [HRD.out, HCA.out, if_pos trivial, hn]; simp only [if_neg hq])
          have hd : decide (rowT xs = R) = false := decide_eq_false hq
          rw [hd]
          obtain ⟨⟨f1, f2⟩, f1', ⟨f3, f4⟩, f4', f5, f6⟩ := store2 HS5.out.2.1 (.int .i64 0) (.slice none 0 0)
          clear hn hq hd hLf hLb hx5
          go_wp2_with fail
          refine bodyPost_ret (v := .tuple #[.agg #[.int .i64 0, .slice none 0 0], .bool false]) (by simp [results, Tryz.results77, go_sem, f5, f6]) rfl ?_
          exact HFL.out HN0.out _ ⟨_, _, HS5.out⟩
  case rest =>
    obtain ⟨v, xs, HCD, HS⟩ := hcut
    have HRX : Hid (rdI L = if L ≠ [] ∧ dtx K xs = L then some (K, xs) else none) := Lib.hid (by rw [HRD.out, HCD.out.1])
    obtain ⟨A3, c3, rfl, hI3⟩ := HS.out.2.2.1.ints
    have HDT := Lib.hid (deedText_any K A3 c3 xs wc hI3 (HE.out.ext HS.out.2.2.2.2.1).1 (by have := HCD.out.2; omega))
    obtain ⟨z0, z1⟩ := two_cells HS.out.1
    clear hI3
    by_cases hL : L = []
    · have hL' : L.isEmpty = true := by rw [hL]; rfl
      have HN0 : Hid (rdI L = none) := Lib.hid (by rw [HRX.out, if_neg (fun q => q.1 hL)])
      obtain ⟨⟨f1, f2⟩, f1', ⟨f3, f4⟩, f4', f5, f6⟩ := store2 HS.out.2.1 (.int .i64 0) (.slice none 0 0)
      clear hL
      go_wp2_with fail
      refine bodyPost_ret (v := .tuple #[.agg #[.int .i64 0, .slice none 0 0], .bool false]) (by simp [results, Tryz.results77, go_sem, f5, f6]) rfl ?_
      exact HFL.out HN0.out _ ⟨_, _, HS.out⟩
    · have hL' : L.isEmpty = false := by
        cases L with
        | nil => exact absurd rfl hL
        | cons a l => rfl
      obtain ⟨T, hT⟩ : ∃ T, dtx K xs = T := ⟨_, rfl⟩
      rw [hT] at HDT HRX
      unfold tx at HDT
      clear hT
      by_cases hTL : T = L
      · have HN0 : Hid (rdI L = some (K, xs)) := Lib.hid (by rw [HRX.out, if_pos ⟨hL, hTL⟩])
        have hTL' : (T == L) = true := beq_iff_eq.2 hTL
        clear hTL hL
        go_wp2_with fail
        refine HDT.out.mono ?_
        rintro e w5 ⟨rfl, hx5⟩
        have HS5 := Lib.hid (HS.out.ext hx5)
        clear z0 z1 hx5
        obtain ⟨z0, z1⟩ := two_cells HS5.out.1
        obtain ⟨⟨f1, f2⟩, f1', ⟨f3, f4⟩, f4', f5, f6⟩ := store2 HS5.out.2.1 (.int .i64 K) (.slice A3 xs.length c3)
        go_wp2_with fail
        refine bodyPost_ret (v := .tuple #[.agg #[.int .i64 K, .slice A3 xs.length c3], .bool true]) (by simp [results, Tryz.results77, go_sem, f5, f6]) rfl ?_
        show RdE w (rdI L) _ _
        rw [HN0.out]
        obtain ⟨h1, h2, h3, h4, h5, h6⟩ := HS5.out
        exact ⟨_, rfl, h3.keep (fun g hg => (Below.heap_setCell _ _ _ _ (by have := h4 g hg; show g ≠ w.heap.size; omega)).trans (Below.heap_setCell _ _ _ _ (by have := h4 g hg; show g ≠ w.heap.size; omega))), fun g hg => by have := h4 g hg; omega, (h5.setCell' (p := ⟨w.heap.size, 0, none⟩) (Nat.le_refl _) _).setCell' (p := ⟨w.heap.size, 1, none⟩) (Nat.le_refl _) _⟩
      · have HN0 : Hid (rdI L = none) := Lib.hid (by rw [HRX.out, if_neg (fun q => hTL q.2)])
        have hTL' : (T == L) = false := beq_eq_false_iff_ne.2 hTL
        clear hTL hL
        go_wp2_with fail
        refine HDT.out.mono ?_
        rintro e w5 ⟨rfl, hx5⟩
        have HS5 := Lib.hid (HS.out.ext hx5)
        clear z0 z1 hx5
        obtain ⟨⟨f1, f2⟩, f1', ⟨f3, f4⟩, f4', f5, f6⟩ := store2 HS5.out.2.1 (.int .i64 0) (.slice none 0 0)
        go_wp2_with fail
        refine bodyPost_ret (v := .tuple #[.agg #[.int .i64 0, .slice none 0 0], .bool false]) (by simp [results, Tryz.results77, go_sem, f5, f6]) rfl ?_
        exact HFL.out HN0.out _ ⟨_, _, HS5.out⟩
end Go.Proofs.YtcejdgnfmcgopaaGreatDoor
