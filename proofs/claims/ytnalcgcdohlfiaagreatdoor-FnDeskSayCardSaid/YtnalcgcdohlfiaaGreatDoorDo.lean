/- What is proved: impl.deskDo and impl.DeskDo return the desk after a deed, in memory of its own. Conditions: those of each contract. -/
import Derived.Test.YtnalcgcdohlfiaaGreatDoorPe
namespace Go.Proofs.YtnalcgcdohlfiaaGreatDoor
open Go.RowKit
/-- spaces of before with one more, at most eight -/
def pushL (L : List (List (List Int))) (D : List (List Int)) : List (List (List Int)) := if 8 < (L ++ [D]).length then (L ++ [D]).drop 1 else L ++ [D]
def doB (D : List (List Int)) (L : List (List (List Int))) (kind : Int) (xs : List Int) : Bool := if kind = 4 ∧ xs.length = 0 then decide (0 < L.length) else madeB D kind xs && decide (madeV D kind xs ≠ D)
def doD (D : List (List Int)) (L : List (List (List Int))) (kind : Int) (xs : List Int) : List (List Int) := if kind = 4 ∧ xs.length = 0 then (if 0 < L.length then nth L (L.length - 1) else D) else if doB D L kind xs = true then madeV D kind xs else D
def doL (D : List (List Int)) (L : List (List (List Int))) (kind : Int) (xs : List Int) : List (List (List Int)) := if kind = 4 ∧ xs.length = 0 then L.take (L.length - 1) else if doB D L kind xs = true then pushL L D else L
theorem deskB_parts {D : List (List Int)} {L : List (List (List Int))} (h : deskB D L = true) : spB D = true ∧ L.length ≤ 8 ∧ ∀ i, i < L.length → spB (nth L i) = true := by
  unfold deskB at h
  rw [Bool.and_eq_true, Bool.and_eq_true] at h
  exact ⟨h.1, of_decide_eq_true h.2.1, (allR_all _ _).1 h.2.2⟩
theorem deskB_mk {D : List (List Int)} {L : List (List (List Int))} (h1 : spB D = true) (h2 : L.length ≤ 8) (h3 : ∀ i, i < L.length → spB (nth L i) = true) : deskB D L = true := by
  unfold deskB
  rw [h1, decide_eq_true h2, (allR_all _ _).2 h3]
  rfl
theorem nth_take {L : List (List (List Int))} {n i : Nat} (hi : i < n) : nth (L.take n) i = nth L i := by
  unfold nth
  simp [List.getD, hi]
theorem nth_drop (L : List (List (List Int))) (n i : Nat) : nth (L.drop n) i = nth L (n + i) := by
  unfold nth
  simp [List.getD, List.getElem?_drop]
theorem pushL_len {L : List (List (List Int))} (D : List (List Int)) (h : L.length ≤ 8) : (pushL L D).length ≤ 8 := by
  unfold pushL
  split
  · rw [List.length_drop, List.length_append, List.length_singleton]; omega
  · omega
theorem pushL_sp {L : List (List (List Int))} {D : List (List Int)} (hs : spB D = true) (h : ∀ i, i < L.length → spB (nth L i) = true) : ∀ i, i < (pushL L D).length → spB (nth (pushL L D) i) = true := by
  have key : ∀ i, i < (L ++ [D]).length → spB (nth (L ++ [D]) i) = true := fun i hi => by
    rw [List.length_append, List.length_singleton] at hi
    rw [nth_app]
    split
    · exact hs
    · exact h i (by omega)
  intro i hi
  unfold pushL at hi ⊢
  split
  · rename_i q
    rw [if_pos q, List.length_drop] at hi
    rw [nth_drop]
    exact key _ (by omega)
  · rename_i q
    rw [if_neg q] at hi
    exact key i hi
/-- the desk after a deed is a desk -/
theorem do_desk {D : List (List Int)} {L : List (List (List Int))} {kind : Int} {xs : List Int} (h : deskB D L = true) : deskB (doD D L kind xs) (doL D L kind xs) = true := by
  obtain ⟨h1, h2, h3⟩ := deskB_parts h
  unfold doD doL
  by_cases q : kind = 4 ∧ xs.length = 0
  · rw [if_pos q, if_pos q]
    refine deskB_mk ?_ (by rw [List.length_take]; omega) fun i hi => ?_
    · split
      · exact h3 _ (by omega)
      · exact h1
    · rw [List.length_take] at hi
      rw [nth_take (by omega)]
      exact h3 i (by omega)
  · rw [if_neg q, if_neg q]
    by_cases r : doB D L kind xs = true
    · rw [if_pos r, if_pos r]
      unfold doB at r
      rw [if_neg q, Bool.and_eq_true] at r
      exact deskB_mk (made_sp h1 r.1) (pushL_len _ h2) (pushL_sp h1 h3)
    · rw [if_neg r, if_neg r]
      exact h
theorem spB_sm {D : List (List Int)} (h : spB D = true) : SmM D := by
  obtain ⟨⟨n1, n6⟩, hsq, -⟩ := farB_parts (spB_far h)
  exact ⟨by omega, fun i hi => by rw [hsq i hi]; omega⟩
theorem deskB_sm {D : List (List Int)} {L : List (List (List Int))} (h : deskB D L = true) : SmD D L := by
  obtain ⟨h1, h2, h3⟩ := deskB_parts h
  exact ⟨spB_sm h1, by omega, fun i hi => spB_sm (h3 i hi)⟩
theorem MatS.take {w : World} {A : Option Addr} {c : Nat} {L : List (List (List Int))} (h : MatS w A c L) (n : Nat) (hn : n ≤ L.length) : MatS w A c (L.take n) := by
  obtain ⟨h1, h2, b, o, hA, hc⟩ := h
  have hl : (L.take n).length = n := by rw [List.length_take]; omega
  refine ⟨by omega, h2, b, o, fun h0 => hA (by omega), fun i hi => ?_⟩
  rw [hl] at hi
  rw [nth_take hi]
  exact hc i (by omega)
theorem MatS.drop1 {w : World} {b o c : Nat} {L : List (List (List Int))} (h : MatS w (some ⟨b, o, none⟩) c L) (h0 : 0 < L.length) : MatS w (some ⟨b, o + 1, none⟩) (c - 1) (L.drop 1) := by
  obtain ⟨h1, h2, b', o', hA, hc⟩ := h
  have e := hA h0
  injection e with e
  injection e with e1 e2
  subst e1; subst e2
  have hl : (L.drop 1).length = L.length - 1 := List.length_drop
  refine ⟨by omega, by omega, b, o + 1, fun _ => rfl, fun i hi => ?_⟩
  rw [hl] at hi
  rw [nth_drop]
  obtain ⟨Ar, cr, e, hM⟩ := hc (1 + i) (by omega)
  exact ⟨Ar, cr, by rw [show o + 1 + i = o + (1 + i) by omega]; exact e, hM⟩
/-- a desk and a Bool handed back, the desk of one's own -/
def DoR (w : World) (D : List (List Int)) (L : List (List (List Int))) (b : Bool) (e : Ending) (w' : World) : Prop := ∃ v, e = .returned (.tuple #[v, .bool b]) ∧ OwnDk w.heap.size w' v D L ∧ Ext w w'
theorem OwnDk.split {b : Nat} {w : World} {v : Value} {D : List (List Int)} {L : List (List (List Int))} (h : OwnDk b w v D L) :
    ∃ A c B d, v = .agg #[.slice A D.length c, .slice B L.length d] ∧ Mat w A c D ∧ MatS w B d L ∧ (D.length ≤ c ∧ c ≤ maxLen) ∧ (L.length ≤ d ∧ d ≤ maxLen) := by
  obtain ⟨A, c, B, d, e, h1, h2⟩ := h.desk
  exact ⟨A, c, B, d, e, h1, h2, ⟨h1.1, h1.2.1⟩, h2.1, h2.2.1⟩
theorem keepB_set2 {b m : Nat} {w : World} {x y : Value} (hb : w.heap[m]? = some (.cells #[x, y] 26 (0, 0))) (u v : Value) :
    w.cell? ⟨m, 0, none⟩ = some x ∧ w.frozen? ⟨m, 0, none⟩ = false ∧ (w.setCell ⟨m, 0, none⟩ u).cell? ⟨m, 1, none⟩ = some y ∧ (w.setCell ⟨m, 0, none⟩ u).frozen? ⟨m, 1, none⟩ = false ∧
      ((w.setCell ⟨m, 0, none⟩ u).setCell ⟨m, 1, none⟩ v).cell? ⟨m, 0, none⟩ = some u ∧ ((w.setCell ⟨m, 0, none⟩ u).setCell ⟨m, 1, none⟩ v).cell? ⟨m, 1, none⟩ = some v ∧
      KeepB b w ((w.setCell ⟨m, 0, none⟩ u).setCell ⟨m, 1, none⟩ v) := by
  have s0 := set_0 (u := u) hb
  have s1 := set_1 (u := v) s0
  exact ⟨by rw [cell_cells hb]; rfl, frozen_cells hb 0, by rw [cell_cells s0]; rfl, frozen_cells s0 1, by rw [cell_cells s1]; rfl, by rw [cell_cells s1]; rfl,
    (KeepB.set (p := ⟨m, 0, none⟩) hb (by decide) u).trans (KeepB.set (p := ⟨m, 1, none⟩) s0 (by decide) v)⟩
set_option maxRecDepth 100000 in
set_option maxHeartbeats 4000000 in
theorem deskDo_any (A B : Option Addr) (c d : Nat) (D : List (List Int)) (L : List (List (List Int))) (kind : Int) (X : Option Addr) (cx : Nat) (xs : List Int) (w : World) (h1 : Mat w A c D) (h2 : MatS w B d L) (hx : Ints w X cx xs) (hd : deskB D L = true) :
    Calls Tryz.prog 36 #[.agg #[.slice A D.length c, .slice B L.length d], .agg #[.int .i64 kind, .slice X xs.length cx]] w (DoR w (doD D L kind xs) (doL D L kind xs) (doB D L kind xs)) := by
  have H1 := Lib.hid h1
  have H2 := Lib.hid h2
  have HX := Lib.hid hx
  have hcx := hx.2.1
  have hlx := hx.1
  unfold maxLen at hcx
  have HC := Lib.hid (fun A' B' c' d' D' L' W (q1 : Mat W A' c' D') (q2 : MatS W B' d' L') (q3 : SmD D' L') => copyDesk_any A' B' c' d' D' L' W q1 q2 q3)
  have HSM := Lib.hid (deskB_sm hd)
  have HDB := Lib.hid hd
  clear h1 h2 hx
  go_enter Tryz.func36, Tryz.ntmps36
  go_wp2_with fail
  refine (HC.out _ _ _ _ _ _ _ (H1.out.ext (by repeat (first | exact Ext.refl _ | assumption | apply Ext.drewN' | apply Ext.alloc' | refine Ext.trans ?_ (by assumption)))) (H2.out.ext (by repeat (first | exact Ext.refl _ | assumption | apply Ext.drewN' | apply Ext.alloc' | refine Ext.trans ?_ (by assumption)))) HSM.out).mono ?_
  rintro e w1 ⟨v1, rfl, hO1, hx1⟩
  obtain ⟨A1, c1, B1, d1, rfl, hM1, hS1, ⟨l1, l2⟩, l3, l4⟩ := hO1.split
  obtain ⟨b0, b1, b2, hw1, sz1⟩ := three_more hx1
  unfold maxLen at l2 l4
  obtain ⟨wz, hwz⟩ : ∃ wz, w1.alloc (.cells #[.slice A1 D.length c1, .slice B1 L.length d1] 26) = wz := ⟨_, rfl⟩
  have hwn : Ext w1 wz := by rw [← hwz]; exact Ext.alloc _ _
  have m0 : wz.heap[w.heap.size]? = some (.cells #[.slice A D.length c, .slice B L.length d] 26 (0, 0)) := (hwn.block (by omega)).trans b0
  have m1 : wz.heap[w.heap.size + 1]? = some (.cells #[.int .i64 kind, .slice X xs.length cx] 54 (0, 0)) := (hwn.block (by omega)).trans b1
  have m2 : wz.heap[w.heap.size + 1 + 1]? = some (.cells #[.slice none 0 0, .slice none 0 0] 26 (0, 0)) := (hwn.block (by omega)).trans b2
  have m6 : wz.heap[w1.heap.size]? = some (.cells #[.slice A1 D.length c1, .slice B1 L.length d1] 26 (0, 0)) := by rw [← hwz]; exact heap_alloc_new w1 _
  have HO := Lib.hid (show OwnDk w.heap.size wz (.agg #[.slice A1 D.length c1, .slice B1 L.length d1]) D L from (hO1.low (by simp; omega)).keep (KeepB.of_ext hwn))
  have HWZ := Lib.hid (hw1.trans hwn)
  have hsz : w.heap.size + 3 ≤ w1.heap.size := sz1
  obtain ⟨M6, hM6⟩ : ∃ M6, w1.heap.size = M6 := ⟨_, rfl⟩
  rw [hM6] at m6 hsz
  obtain ⟨p0, p1⟩ := two_cells m0
  obtain ⟨d0, d1'⟩ := two_cells m1
  obtain ⟨s0, s1⟩ := two_cells m6
  obtain ⟨r1, r2, r3, r4, r5, r6, r7⟩ := keepB_set2 (b := w.heap.size) m2 (.slice A1 D.length c1) (.slice B1 L.length d1)
  have HSAME := Lib.hid (show OwnDk w.heap.size ((wz.setCell ⟨w.heap.size + 1 + 1, 0, none⟩ (.slice A1 D.length c1)).setCell ⟨w.heap.size + 1 + 1, 1, none⟩ (.slice B1 L.length d1)) (.agg #[.slice A1 D.length c1, .slice B1 L.length d1]) D L ∧ Ext w ((wz.setCell ⟨w.heap.size + 1 + 1, 0, none⟩ (.slice A1 D.length c1)).setCell ⟨w.heap.size + 1 + 1, 1, none⟩ (.slice B1 L.length d1)) from
    ⟨HO.out.keep r7, (HWZ.out.setCell' (by show w.heap.size ≤ w.heap.size + 1 + 1; omega) _).setCell' (by show w.heap.size ≤ w.heap.size + 1 + 1; omega) _⟩)
  have HM0 := Lib.hid m0
  have HM2 := Lib.hid m2
  have HM6 := Lib.hid m6
  have HV := Lib.hid (show doB D L kind xs = if kind = 4 ∧ xs.length = 0 then decide (0 < L.length) else madeB D kind xs && decide (madeV D kind xs ≠ D) from rfl)
  have HVD := Lib.hid (show doD D L kind xs = if kind = 4 ∧ xs.length = 0 then (if 0 < L.length then nth L (L.length - 1) else D) else if doB D L kind xs = true then madeV D kind xs else D from rfl)
  have HVL := Lib.hid (show doL D L kind xs = if kind = 4 ∧ xs.length = 0 then L.take (L.length - 1) else if doB D L kind xs = true then pushL L D else L from rfl)
  clear b0 b1 b2 hx1 hO1 hw1 hwn m0 m1 m2 m6 sz1 r7
  by_cases hk : kind = 4 ∧ xs.length = 0
  · obtain ⟨hk1, hk2⟩ := hk
    rw [if_pos ⟨hk1, hk2⟩] at HV HVD HVL
    have k1 : (kind == 4) = true := beq_iff_eq.2 hk1
    have k2 : ((xs.length : Int) == 0) = true := beq_iff_eq.2 (by omega)
    clear hk1 hk2
    by_cases h0 : 0 < L.length
    · obtain ⟨p, hp⟩ : ∃ p, L.length = p + 1 := ⟨L.length - 1, by omega⟩
      have HF := Lib.hid (show doB D L kind xs = true ∧ doD D L kind xs = nth L p ∧ doL D L kind xs = L.take p from ⟨by rw [HV.out, decide_eq_true h0], by rw [HVD.out, if_pos h0, hp]; rfl, by rw [HVL.out, hp]; rfl⟩)
      obtain ⟨bS, oS, R, rc, hB, hrow, -, hmat⟩ := hS1.parts
      obtain rfl := hB (by omega)
      have c9 := (show Ext w1 wz by rw [← hwz]; exact Ext.alloc _ _).cell (hrow p (by omega))
      have HMT := Lib.hid (fun W (q : Ext wz W) => HC.out (R p) (some ⟨bS, oS, none⟩) (rc p) d1 (nth L p) (L.take p) W ((hmat p (by omega)).ext ((show Ext w1 wz by rw [← hwz]; exact Ext.alloc _ _).trans q)) ((hS1.ext ((show Ext w1 wz by rw [← hwz]; exact Ext.alloc _ _).trans q)).take p (by omega)) ⟨HSM.out.2.2 p (by omega), by rw [List.length_take]; have := HSM.out.2.1; omega, fun i hi => by rw [List.length_take] at hi; rw [nth_take (by omega)]; exact HSM.out.2.2 i (by omega)⟩)
      have HTL := Lib.hid (show (L.take p).length = p by rw [List.length_take]; omega)
      rw [HTL.out] at HMT
      rw [hp] at l3 p1 s1
      have hwz' := hwz
      rw [hp] at hwz'
      obtain ⟨ln, hln⟩ : ∃ n, (nth L p).length = n := ⟨_, rfl⟩
      rw [hln] at c9 HMT
      have hcast : ((p + 1 : Nat) : Int) = (p : Int) + 1 := by omega
      have hlt1 : (p : Int) < (p : Int) + 1 := by omega
      have hle1 : (p : Int) ≤ (d1 : Nat) := by omega
      have hle2 : (0 : Int) ≤ (p : Int) := by omega
      have hz1 : wz.heap.size = wz.heap.size := rfl
      have HXW := Lib.hid (show ∀ W, Ext wz W → W.heap[w.heap.size + 1 + 1]? = some (.cells #[.slice none 0 0, .slice none 0 0] 26 (0, 0)) from fun W q => (q.block (heap_lt HM2.out)).trans HM2.out)
      rw [hp]
      clear hmat hrow hM1 hS1 HV HVD HVL h0 HSAME
      go_wp2_with fail
      go_region_law ((go_simp; go_at_call 19; refine (HMT.out wz.drew (Ext.drewN wz 1)).mono ?_; rintro e w9 ⟨v9, rfl, hO9, hx9⟩; obtain ⟨A9, e9, B9, f9, rfl, -, -, -, -⟩ := hO9.split; rw [hln, HTL.out] at hO9; obtain ⟨t1, t2, t3, t4, t5, t6, t7⟩ := keepB_set2 (b := w.heap.size) (HXW.out w9 ((Ext.drewN wz 1).trans hx9)) (.slice A9 ln e9) (.slice B9 p f9)))
      all_goals
        have HFIN := Lib.hid (And.intro ((hO9.low (show w.heap.size ≤ wz.drew.heap.size from HWZ.out.size)).keep t7) (((HWZ.out.trans ((Ext.drewN wz 1).trans hx9)).setCell' (p := ⟨w.heap.size + 1 + 1, 0, none⟩) (by show w.heap.size ≤ w.heap.size + 1 + 1; omega) (.slice A9 ln e9)).setCell' (p := ⟨w.heap.size + 1 + 1, 1, none⟩) (by show w.heap.size ≤ w.heap.size + 1 + 1; omega) (.slice B9 p f9)))
        clear hO9 t7
        go_wp2
        refine bodyPost_ret (v := .tuple #[.agg #[.slice A9 ln e9, .slice B9 p f9], .bool true]) (by simp [results, Tryz.results36, go_sem, t5, t6]) rfl ?_
        rw [HF.out.1, HF.out.2.1, HF.out.2.2]
        exact ⟨_, rfl, HFIN.out.1, HFIN.out.2⟩
    · have hL : L = [] := List.eq_nil_of_length_eq_zero (by omega)
      have HF := Lib.hid (show doB D L kind xs = false ∧ doD D L kind xs = D ∧ doL D L kind xs = L from ⟨by rw [HV.out, decide_eq_false h0], by rw [HVD.out, if_neg h0], by rw [HVL.out, hL]; rfl⟩)
      have hL' : (L.length : Int) ≤ 0 := by omega
      clear h0 hL HV HVD HVL hM1 hS1
      go_wp2
      refine bodyPost_ret (v := .tuple #[.agg #[.slice A1 D.length c1, .slice B1 L.length d1], .bool false]) (by simp [results, Tryz.results36, go_sem, r5, r6]) rfl ?_
      rw [HF.out.1, HF.out.2.1, HF.out.2.2]
      exact ⟨_, rfl, HSAME.out.1, HSAME.out.2⟩
  · rw [if_neg hk] at HV HVD HVL
    have hr : (kind == 4) = false ∨ ((kind == 4) = true ∧ ((xs.length : Int) == 0) = false) := by
      by_cases q : kind = 4
      · exact .inr ⟨beq_iff_eq.2 q, beq_eq_false_iff_ne.2 fun e => hk ⟨q, by omega⟩⟩
      · exact .inl (beq_eq_false_iff_ne.2 q)
    have HNS := Lib.hid (fun W (q : Ext w W) => nextSpace_any A c D kind X cx xs W (H1.out.ext q) (HX.out.ext q) (deskB_parts HDB.out).1)
    have HSP := Lib.hid (fun (q : madeB D kind xs = true) => spB_sm (made_sp (deskB_parts HDB.out).1 q))
    have h8 := (deskB_parts HDB.out).2.1
    have HXW := Lib.hid (show ∀ W, Ext wz W → W.heap[w.heap.size]? = some (.cells #[.slice A D.length c, .slice B L.length d] 26 (0, 0)) ∧ W.heap[w.heap.size + 1 + 1]? = some (.cells #[.slice none 0 0, .slice none 0 0] 26 (0, 0)) ∧ W.heap[M6]? = some (.cells #[.slice A1 D.length c1, .slice B1 L.length d1] 26 (0, 0)) from
      fun W q => ⟨(q.block (heap_lt HM0.out)).trans HM0.out, (q.block (heap_lt HM2.out)).trans HM2.out, (q.block (heap_lt HM6.out)).trans HM6.out⟩)
    obtain ⟨mb, hmb⟩ : ∃ b, madeB D kind xs = b := ⟨_, rfl⟩
    obtain ⟨E, hE⟩ : ∃ E, madeV D kind xs = E := ⟨_, rfl⟩
    rw [hmb, hE] at HV HNS
    rw [hmb] at HSP
    rw [hE] at HVD HSP
    have HCR := Lib.hid (fun A2 c2 W (q1 : Mat W A2 c2 E) (q2 : Mat W A c D) => compareRows_any A2 A c2 c E D W q1 q2)
    have HZ0 := Lib.hid (cmpM_zero (D := E) (E := D))
    clear hk hM1 hS1 hmb hE
    rcases hr with hr | ⟨hr, hr2⟩
    all_goals
      go_wp2_with fail
      refine (HNS.out wz HWZ.out).mono ?_
      rintro e w2 ⟨A2, c2, rfl, hF2, hx2⟩
      have HF2 := Lib.hid hF2
      obtain ⟨n0, n2, n6⟩ := HXW.out w2 hx2
      obtain ⟨p0', p1'⟩ := two_cells n0
      obtain ⟨s0', s1'⟩ := two_cells n6
      cases mb with
      | false =>
        have HF := Lib.hid (show doB D L kind xs = false ∧ doD D L kind xs = D ∧ doL D L kind xs = L from ⟨by rw [HV.out]; rfl, by rw [HVD.out, HV.out]; rfl, by rw [HVL.out, HV.out]; rfl⟩)
        obtain ⟨t1, t2, t3, t4, t5, t6, t7⟩ := keepB_set2 (b := w.heap.size) n2 (.slice A1 D.length c1) (.slice B1 L.length d1)
        have HFIN := Lib.hid (And.intro ((HO.out.keep (KeepB.of_ext hx2)).keep t7) (((HWZ.out.trans hx2).setCell' (p := ⟨w.heap.size + 1 + 1, 0, none⟩) (by show w.heap.size ≤ w.heap.size + 1 + 1; omega) (.slice A1 D.length c1)).setCell' (p := ⟨w.heap.size + 1 + 1, 1, none⟩) (by show w.heap.size ≤ w.heap.size + 1 + 1; omega) (.slice B1 L.length d1)))
        clear hF2 n0 n2 n6 t7 HV HVD HVL HSAME
        go_wp2
        refine bodyPost_ret (v := .tuple #[.agg #[.slice A1 D.length c1, .slice B1 L.length d1], .bool false]) (by simp [results, Tryz.results36, go_sem, t5, t6]) rfl ?_
        rw [HF.out.1, HF.out.2.1, HF.out.2.2]
        exact ⟨_, rfl, HFIN.out.1, HFIN.out.2⟩
      | true =>
        have HC2 := Lib.hid (HCR.out A2 c2 w2 HF2.out.now (H1.out.ext (HWZ.out.trans hx2)))
        obtain ⟨Zc, hZc⟩ : ∃ Z, cmpM E D = Z := ⟨_, rfl⟩
        rw [hZc] at HC2
        have HZ1 := Lib.hid (show Zc = 0 ↔ E = D by rw [← hZc]; exact HZ0.out)
        clear hZc hF2
        go_wp2_with fail
        refine HC2.out.mono ?_
        rintro e w3 ⟨rfl, m3, rfl⟩
        have hx3 : Ext wz (w2.drewN m3) := hx2.drewN' _
        have hx3z : Ext w2 (w2.drewN m3) := Ext.drewN _ _
        by_cases hz : Zc = 0
        · have HF := Lib.hid (show doB D L kind xs = false ∧ doD D L kind xs = D ∧ doL D L kind xs = L from by
            have : doB D L kind xs = false := by rw [HV.out, decide_eq_false (fun q => q (HZ1.out.1 hz))]; rfl
            exact ⟨this, by rw [HVD.out, this]; rfl, by rw [HVL.out, this]; rfl⟩)
          obtain ⟨t1, t2, t3, t4, t5, t6, t7⟩ := keepB_set2 (b := w.heap.size) (show (w2.drewN m3).heap[w.heap.size + 1 + 1]? = _ from n2) (.slice A1 D.length c1) (.slice B1 L.length d1)
          have HFIN := Lib.hid (And.intro ((HO.out.keep (KeepB.of_ext hx3)).keep t7) (((HWZ.out.trans hx3).setCell' (p := ⟨w.heap.size + 1 + 1, 0, none⟩) (by show w.heap.size ≤ w.heap.size + 1 + 1; omega) (.slice A1 D.length c1)).setCell' (p := ⟨w.heap.size + 1 + 1, 1, none⟩) (by show w.heap.size ≤ w.heap.size + 1 + 1; omega) (.slice B1 L.length d1)))
          have z1 : (Zc == 0) = true := beq_iff_eq.2 hz
          clear n0 n2 n6 t7 HV HVD HVL HSAME hz
          go_wp2
          refine bodyPost_ret (v := .tuple #[.agg #[.slice A1 D.length c1, .slice B1 L.length d1], .bool false]) (by simp [results, Tryz.results36, go_sem, t5, t6]) rfl ?_
          rw [HF.out.1, HF.out.2.1, HF.out.2.2]
          exact ⟨_, rfl, HFIN.out.1, HFIN.out.2⟩
        · have HF := Lib.hid (show doB D L kind xs = true ∧ doD D L kind xs = E ∧ doL D L kind xs = pushL L D from by
            have : doB D L kind xs = true := HV.out.trans (by rw [Bool.true_and]; exact decide_eq_true (show E ≠ D from fun q => hz (HZ1.out.2 q)))
            exact ⟨this, by rw [HVD.out, this]; rfl, by rw [HVL.out, this]; rfl⟩)
          have z1 : (Zc == 0) = false := beq_eq_false_iff_ne.2 hz
          obtain ⟨v1, v2, Zo, U, V, he, hM, hS, hcr⟩ := HO.out
          obtain ⟨rfl, rfl⟩ : Value.slice A1 D.length c1 = v1 ∧ Value.slice B1 L.length d1 = v2 := by
            injection he with he
            injection he with he
            injection he with he1 he2
            injection he2 with he2 _
            exact ⟨he1, he2⟩
          have HOW := Lib.hid (fun g hg => (hS.1.lt g hg).2)
          obtain ⟨WA, hWA⟩ : ∃ W, w2.drewN m3 = W := ⟨_, rfl⟩
          rw [hWA] at hx3 hx3z
          have kb := KeepB.of_ext (b := w.heap.size) (hx3.trans (Ext.alloc WA (.cells #[.slice A1 D.length c1] 23)))
          have HPU := Lib.hid (fun ty => ownS_push (P := Tryz.prog) (w0 := w) (ty := ty) (T := 24) rfl Tryz.underlying24 infoM (ad := ⟨WA.heap.size, 0, none⟩) (c := 1) rfl (cell_new0 WA (.slice A1 D.length c1) _) (HWZ.out.trans (hx3.trans (Ext.alloc _ _))) (hS.keep kb) (hM.keep kb) hcr (by omega))
          obtain ⟨g0, g2, g6⟩ := HXW.out (WA.alloc (.cells #[.slice A1 D.length c1] 23)) (hx3.trans (Ext.alloc _ _))
          have HG2 := Lib.hid g2
          have HFX := Lib.hid (HF2.out.ext (hx3z.trans (Ext.alloc WA (.cells #[.slice A1 D.length c1] 23))))
          have HWX := Lib.hid (HWZ.out.trans hx3)
          obtain ⟨q0, q1⟩ := two_cells (HXW.out WA hx3).2.2
          have HSPE := Lib.hid (HSP.out (by first | rfl | trivial))
          rw [hWA]
          clear he hM hS hcr kb n0 n2 n6 g0 g2 g6 HV HVD HVL HSAME hz p0' p1' s0' s1' hx2 hx3 hx3z hWA
          have HSM8 := Lib.hid (fun i (hi : i < L.length) => HSM.out.2.2 i hi)
          have HSMD := Lib.hid HSM.out.1
          by_cases h9 : 8 < L.length + 1
          · have h9' : (8 : Int) < (L.length : Nat) + 1 := by omega
            have hn1 : (1 : Int) ≤ (L.length : Nat) + 1 := by omega
            have HPL := Lib.hid (show pushL L D = (L ++ [D]).drop 1 from if_pos (by rw [List.length_append, List.length_singleton]; exact h9))
            have HPN := Lib.hid (show ((L ++ [D]).drop 1).length = L.length by rw [List.length_drop, List.length_append, List.length_singleton]; omega)
            go_wp2_with (at_builtin; refine wpList_ex rfl _ _ rfl (.slice B1 L.length d1) (.slice (some ⟨_, 0, none⟩) 1 1) rfl rfl (HPU.out _) ?_; rintro v9 w9 ⟨hx9, hS9, hsz9, hk9, hb9⟩; obtain ⟨A9, c9, hv9, hl9, hm9, hA9⟩ := hS9.parts; rw [List.length_append, List.length_singleton] at hv9 hl9 hA9; subst hv9; obtain ⟨g9, rfl, -⟩ := hA9 (by omega); unfold maxLen at hm9; have hc9 : ((L.length : Nat) : Int) + 1 ≤ (c9 : Nat) := by omega)
            have HFE := Lib.hid (HFX.out w9 (fun k hk1 hk2 => hb9.2 k hk2 (fun e => by have := HOW.out k e.symm; omega)))
            have g2 := (hk9 _ _ _ _ HG2.out (by decide)).trans HG2.out
            have HX9 := Lib.hid hx9
            have HMS := Lib.hid (show MatS w9 (some ⟨g9, 0 + 1, none⟩) (c9 - 1) (pushL L D) from by rw [HPL.out]; exact hS9.mats_of.2.drop1 (by rw [List.length_append]; simp))
            have HSMP := Lib.hid (show SmD E (pushL L D) from ⟨HSPE.out, by have := pushL_len (L := L) D h8; omega, fun i hi => by
              rw [HPL.out] at hi ⊢
              rw [HPN.out] at hi; rw [nth_drop, nth_app]; split; exact HSMD.out; exact HSM8.out _ (by omega)⟩)
            have HC9 := Lib.hid (HC.out A2 _ c2 _ E (pushL L D) w9 HFE.out HMS.out HSMP.out)
            rw [HPL.out, HPN.out] at HC9
            have HG9 := Lib.hid g2
            clear hx9 hS9 hsz9 hk9 hb9 g2 HFX HPU HSMP HMS HFE
            refine HC9.out.mono ?_
            rintro e w10 ⟨v10, rfl, hO10, hx10⟩
            obtain ⟨Aa, ca, Ba, da, rfl, -, -, -, -⟩ := hO10.split
            rw [HPN.out] at hO10
            rw [HPN.out]
            obtain ⟨t1, t2, t3, t4, t5, t6, t7⟩ := keepB_set2 (b := w.heap.size) ((hx10.block (heap_lt HG9.out)).trans HG9.out) (.slice Aa E.length ca) (.slice Ba (L.length) da)
            have HFIN := Lib.hid (And.intro ((hO10.low HX9.out.size).keep t7) (((HX9.out.trans hx10).setCell' (p := ⟨w.heap.size + 1 + 1, 0, none⟩) (by show w.heap.size ≤ w.heap.size + 1 + 1; omega) (.slice Aa E.length ca)).setCell' (p := ⟨w.heap.size + 1 + 1, 1, none⟩) (by show w.heap.size ≤ w.heap.size + 1 + 1; omega) (.slice Ba (L.length) da)))
            clear hO10 hx10 t7
            go_wp2
            refine bodyPost_ret (v := .tuple #[.agg #[.slice Aa E.length ca, .slice Ba (L.length) da], .bool true]) (by simp [results, Tryz.results36, go_sem, t5, t6]) rfl ?_
            rw [HF.out.1, HF.out.2.1, HF.out.2.2, HPL.out]
            exact ⟨_, rfl, HFIN.out.1, HFIN.out.2⟩
          · have h9' : ¬ (8 : Int) < (L.length : Nat) + 1 := by omega
            have HPL := Lib.hid (show pushL L D = L ++ [D] from if_neg (by rw [List.length_append, List.length_singleton]; exact h9))
            have HPN := Lib.hid (show (L ++ [D]).length = L.length + 1 by rw [List.length_append, List.length_singleton])
            go_wp2_with (at_builtin; refine wpList_ex rfl _ _ rfl (.slice B1 L.length d1) (.slice (some ⟨_, 0, none⟩) 1 1) rfl rfl (HPU.out _) ?_; rintro v9 w9 ⟨hx9, hS9, hsz9, hk9, hb9⟩; obtain ⟨A9, c9, hv9, hl9, hm9, hA9⟩ := hS9.parts; rw [List.length_append, List.length_singleton] at hv9 hl9 hA9; subst hv9; unfold maxLen at hm9)
            have HFE := Lib.hid (HFX.out w9 (fun k hk1 hk2 => hb9.2 k hk2 (fun e => by have := HOW.out k e.symm; omega)))
            have g2 := (hk9 _ _ _ _ HG2.out (by decide)).trans HG2.out
            have HX9 := Lib.hid hx9
            have HMS := Lib.hid (show MatS w9 A9 c9 (pushL L D) from by rw [HPL.out]; exact hS9.mats_of.2)
            have HSMP := Lib.hid (show SmD E (pushL L D) from ⟨HSPE.out, by have := pushL_len (L := L) D h8; omega, fun i hi => by
              rw [HPL.out] at hi ⊢
              rw [HPN.out] at hi; rw [nth_app]; split; exact HSMD.out; exact HSM8.out _ (by omega)⟩)
            have HC9 := Lib.hid (HC.out A2 _ c2 _ E (pushL L D) w9 HFE.out HMS.out HSMP.out)
            rw [HPL.out, HPN.out] at HC9
            have HG9 := Lib.hid g2
            clear hx9 hS9 hsz9 hk9 hb9 g2 HFX HPU HSMP HMS HFE
            refine HC9.out.mono ?_
            rintro e w10 ⟨v10, rfl, hO10, hx10⟩
            obtain ⟨Aa, ca, Ba, da, rfl, -, -, -, -⟩ := hO10.split
            rw [HPN.out] at hO10
            rw [HPN.out]
            obtain ⟨t1, t2, t3, t4, t5, t6, t7⟩ := keepB_set2 (b := w.heap.size) ((hx10.block (heap_lt HG9.out)).trans HG9.out) (.slice Aa E.length ca) (.slice Ba (L.length + 1) da)
            have HFIN := Lib.hid (And.intro ((hO10.low HX9.out.size).keep t7) (((HX9.out.trans hx10).setCell' (p := ⟨w.heap.size + 1 + 1, 0, none⟩) (by show w.heap.size ≤ w.heap.size + 1 + 1; omega) (.slice Aa E.length ca)).setCell' (p := ⟨w.heap.size + 1 + 1, 1, none⟩) (by show w.heap.size ≤ w.heap.size + 1 + 1; omega) (.slice Ba (L.length + 1) da)))
            clear hO10 hx10 t7
            go_wp2
            refine bodyPost_ret (v := .tuple #[.agg #[.slice Aa E.length ca, .slice Ba (L.length + 1) da], .bool true]) (by simp [results, Tryz.results36, go_sem, t5, t6]) rfl ?_
            rw [HF.out.1, HF.out.2.1, HF.out.2.2, HPL.out]
            exact ⟨_, rfl, HFIN.out.1, HFIN.out.2⟩
end Go.Proofs.YtnalcgcdohlfiaaGreatDoor
