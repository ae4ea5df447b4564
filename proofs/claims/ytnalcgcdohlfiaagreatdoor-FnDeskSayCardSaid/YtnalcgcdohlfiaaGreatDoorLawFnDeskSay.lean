/- What is proved: the walk of the law FnDeskSay (if l20Deed draws a deed). Conditions: those of the contract. -/
import Derived.Test.YtnalcgcdohlfiaaGreatDoorDrSay
import Derived.Test.YtnalcgcdohlfiaaGreatDoorSayS
import Derived.Test.YtnalcgcdohlfiaaGreatDoorPlSay
import Derived.Test.YtnalcgcdohlfiaaGreatDoorTs
import Derived.Test.YtnalcgcdohlfiaaGreatDoorLawFnDeskLine
import Derived.Deep.DeepCutAuto
import Derived.Deep.RegionLaw
import Derived.BigFrame
namespace Go.Proofs.YtnalcgcdohlfiaaGreatDoor
open Go.RowKit
theorem Txts.take {w : World} {A : Option Addr} {c : Nat} {ts : List (List UInt8)} (h : Txts w A c ts) {n : Nat} (hn : n ≤ ts.length) : Txts w A c (ts.take n) ∧ (ts.take n).length = n := by
  have hl : (ts.take n).length = n := by rw [List.length_take]; omega
  obtain ⟨h1, h2, b, o, h3, h4⟩ := h
  refine ⟨⟨by omega, h2, b, o, fun q => h3 (by omega), fun i hi => ?_⟩, hl⟩
  have e : (ts.take n).getD i [] = ts.getD i [] := by
    rw [List.getD_eq_getElem?_getD, List.getD_eq_getElem?_getD, List.getElem?_take, if_pos (by omega)]
  rw [e]
  exact h4 i (by omega)
theorem Txts.drop' {w : World} {q : Nat} {c : Nat} {ts : List (List UInt8)} (h : Txts w (some ⟨q, 0, none⟩) c ts) {n : Nat} (hn : n ≤ ts.length) :
    Txts w (if c = n then some ⟨q, 0, none⟩ else some ⟨q, n, none⟩) (c - n) (ts.drop n) ∧ (ts.drop n).length = ts.length - n := by
  have hl : (ts.drop n).length = ts.length - n := List.length_drop
  obtain ⟨h1, h2, b, o, h3, h4⟩ := h
  refine ⟨⟨by omega, by omega, ?_⟩, hl⟩
  by_cases h0 : 0 < (ts.drop n).length
  · rw [if_neg (by omega)]
    obtain ⟨he, cs, hb⟩ := h3 (by omega)
    injection he with he
    injection he with he1 he2
    subst he1 he2
    refine ⟨q, n, fun _ => ⟨rfl, cs, hb⟩, fun i hi => ?_⟩
    have e : (ts.drop n).getD i [] = ts.getD (n + i) [] := by
      rw [List.getD_eq_getElem?_getD, List.getD_eq_getElem?_getD, List.getElem?_drop]
    rw [e]
    have := h4 (n + i) (by omega)
    rw [Nat.zero_add] at this
    exact this
  · exact ⟨0, 0, fun k => absurd k h0, fun i hi => absurd hi (by omega)⟩
/-- a desk of one's own stored in a new block -/
theorem own_stored {w8 wc w10 wf : World} {m10 : Nat} {A B : Option Addr} {c d : Nat} {D : List (List Int)} {L : List (List (List Int))} (hx : Ext w8 wc) (hX : Ext wc w10) (hO : OwnDk wc.heap.size w10 (.agg #[.slice A D.length c, .slice B L.length d]) D L)
    (hm : ∃ wz, Ext w10 wz ∧ wz.heap[m10]? = some (.cells #[.slice none 0 0, .slice none 0 0] 26 (0, 0)) ∧ wf = (wz.setCell ⟨m10, 0, none⟩ (.slice A D.length c)).setCell ⟨m10, 1, none⟩ (.slice B L.length d)) (hm10 : w8.heap.size ≤ m10) :
    Ext w8 wf ∧ wf.heap[m10]? = some (.cells #[.slice A D.length c, .slice B L.length d] 26 (0, 0)) ∧ Mat wf A c D ∧ MatS wf B d L := by
  obtain ⟨wz, hz1, hz2, rfl⟩ := hm
  obtain ⟨Aq, cq, Bq, dq, eq, m1q, m2q, -, -⟩ := ((hO.keep (KeepB.of_ext hz1)).keep (keepB_set2 hz2 (.slice A D.length c) (.slice B L.length d)).2.2.2.2.2.2).split
  simp only [Value.agg.injEq, Array.mk.injEq, List.cons.injEq, Value.slice.injEq] at eq
  obtain ⟨⟨rfl, -, rfl⟩, ⟨rfl, -, rfl⟩, -⟩ := eq
  exact ⟨(((hx.trans hX).trans hz1).setCell' (p := ⟨m10, 0, none⟩) hm10 _).setCell' (p := ⟨m10, 1, none⟩) hm10 _, set_1 (set_0 hz2), m1q, m2q⟩
/-- append in a region that does not draw, behind a guard -/
theorem wpList_exW {P : Program} {ops : Array Oper} {rest : List Oper} {o : Oper} {a : Act} {w : World} {Q : Exit → Act → World → Prop} {T : TypeId} {R : Value → World → Prop}
    (hw : Region.wanted o (yielded ops a.tmps) = true) (s x : Operand) (ho : o.op = .call { callee := .builtin .append, args := #[s, x], argTypes := #[T, T] })
    (v u : Value) (hs : a.eval s = v) (hx : a.eval x = u) (h : ∃ v' w', (Builtin.append_ #[T, T] o.type #[v, u]).run P w = .ok v' w' ∧ R v' w')
    (hk : ∀ v' w', R v' w' → wpList P ops Q rest (a.put o.dst v') w') : wpList P ops Q (o :: rest) a w := by
  obtain ⟨v', w', hr, hR⟩ := h
  refine BigFrame.wpList_want hw fun K hK => ?_
  unfold Oper.wp execOp
  simp only [ho, resolve, invoke, builtin, Sem.run_bind, Sem.run_pure, Result.andThen_ok, List.map_toArray, List.map_cons, List.map_nil, hs, hx, hr]
  exact hK _ _ (hk _ _ hR)
/-- append of what is owned: nil or not -/
theorem app_own {P : Program} {w0 W : World} {T E ty : TypeId} {z : Value} {bytes b : Nat}
    (ht : P.underlying T = some (.slice E)) (hinfo : (P.info? E).map (fun i => (i.zero, i.size, i.bytes)) = some (some z, 1, bytes)) (hz1 : z.cells.size = 1) (hby : bytes ≤ 64)
    (v x : Value) (xs news : List Value) (hx : W.ownsRow b E 1 x news.length news) (h1 : ∀ u ∈ news, u.oneCell' = true)
    (hX : Acc w0 W E v xs) (hlen : xs.length + news.length ≤ 10000000) :
    ∃ v' w', (Builtin.append_ #[T, T] ty #[v, x]).run P W = .ok v' w' ∧ (Acc w0 w' E v' (xs ++ news) ∧ Beside v W w') := by
  rcases hx.2 with ⟨rfl, h0⟩ | ⟨g, cap, cur, rfl, -, hg, hcap, -, hs, htk⟩
  · have hn : news = [] := List.eq_nil_of_length_eq_zero h0
    subst hn
    obtain ⟨i0, hi, hz, hsz, hb⟩ := info_parts hinfo
    refine ⟨v, W, run_append_owned_none (P := P) (w := W) w0.heap.size T ty E i0 1 ht hi v xs.length xs hX.2, ?_, Nat.le_refl _, fun _ _ _ => rfl⟩
    rw [List.append_nil]
    exact hX
  · obtain ⟨v', w', hr, h2, h3, -⟩ := app_run (P := P) (ty := ty) ht hinfo hz1 hby v xs ⟨g, 0, none⟩ news.length cap news rfl (fun j y hj => by
      rw [Addr.add_lit, Nat.zero_add, cell_cells hg]
      have hjl : j < news.length := by
        rcases Nat.lt_or_ge j news.length with q | q
        · exact q
        · rw [List.getElem?_eq_none q] at hj; cases hj
      have e : (cur.toList.take (news.length * 1))[j]? = news[j]? := by rw [htk]
      rw [List.getElem?_take, if_pos (by omega)] at e
      rw [← Array.getElem?_toList, e, hj]) h1 hX hlen
    exact ⟨v', w', hr, h2, h3⟩
theorem own_ext {W W' : World} {b : Nat} {E : TypeId} {v : Value} {n : Nat} {xs : List Value} (h : W.ownsRow b E 1 v n xs) (k : Ext W W') : W'.ownsRow b E 1 v n xs := by
  refine ⟨h.1, ?_⟩
  rcases h.2 with h3 | ⟨q, cap, cur, e1, e2, e3, e4⟩
  · exact .inl h3
  · exact .inr ⟨q, cap, cur, e1, e2, (k.block (heap_lt e3)).trans e3, e4⟩
theorem own_beside {W W' : World} {b : Nat} {E : TypeId} {v x : Value} {n : Nat} {xs : List Value} (h : W.ownsRow b E 1 x n xs) (k : Beside v W W') (hne : ∀ g, x.ownBlock = some g → some g ≠ v.ownBlock) : W'.ownsRow b E 1 x n xs := by
  refine ⟨h.1, ?_⟩
  rcases h.2 with h3 | ⟨q, cap, cur, e1, e2, e3, e4⟩
  · exact .inl h3
  · exact .inr ⟨q, cap, cur, e1, e2, (k.2 q (heap_lt e3) (hne q (by rw [e1]; rfl))).trans e3, e4⟩
theorem sayV_bad {D : List (List Int)} {L : List (List (List Int))} {ts : List (List UInt8)} (h : ¬ (deskB D L = true ∧ ts.length ≤ 40)) : sayV D L ts = ([], [], []) := by
  unfold sayV; rw [if_neg h]
theorem sayV_good {D : List (List Int)} {L : List (List (List Int))} {ts : List (List UInt8)} (h : deskB D L = true ∧ ts.length ≤ 40) :
    deskB (sayV D L ts).1 (sayV D L ts).2.1 = true ∧ (sayV D L ts).2.2.length = ts.length ∧ ∀ t ∈ (sayV D L ts).2.2, t ≠ [] := by
  unfold sayV
  rw [if_pos h]
  exact ⟨sayL_desk ts h.1, sayL_len ts D L, sayL_ne ts h.1⟩
theorem map_cell (us : List (List UInt8)) : ∀ u ∈ us.map tx, u.oneCell' = true := by
  intro u hu
  obtain ⟨t, -, rfl⟩ := List.mem_map.1 hu
  rfl
set_option maxRecDepth 100000 in
set_option maxHeartbeats 60000000 in
theorem FnDeskSay_walk (hDeed : DeedAny) (A : Option Addr) (n c : Nat) (w : World) (h : Byt w A n c) (hE : Env w) (ht : Tab w) :
    Calls Tryz.prog 3 #[.slice A n c] w fun e w' => e = .returned (.bool true) ∧ Ext w w' := by
  by_cases hz : 1048576 < n
  · have hz' : (1048576 : Int) < (n : Nat) := by omega
    go_enter Tryz.func3, Tryz.ntmps3
    go_wp2
    go_ret
    exact ⟨rfl, (by repeat (first | exact Ext.refl _ | assumption | apply Ext.drewN' | apply Ext.alloc' | refine Ext.trans ?_ (by assumption)))⟩
  have hz' : ¬ (1048576 : Int) < (n : Nat) := by omega
  have HDR := Lib.hid (drawDeskSay_any hDeed A n c w h)
  have HE := Lib.hid (fun W (q : Ext w W) => And.intro (hE.ext q) (ht.ext q))
  clear h hE ht
  go_enter Tryz.func3, Tryz.ntmps3
  go_wp2_with fail
  refine HDR.out.mono ?_
  rintro e w1 ⟨A1, c1, B1, d1, D, L, _, x1, ts, rfl, hM, hS, hI, ⟨q1, rfl⟩, hl41, hlt, hx1⟩
  have HM := Lib.hid hM
  have HS := Lib.hid hS
  have HI := Lib.hid hI
  have hl1 := hI.1
  have hl2 := hI.2.1
  unfold maxLen at hl2
  have HLT := Lib.hid (show ∀ us : List (List UInt8), (∀ t ∈ us, t ∈ ts) → ∀ i, i < us.length → (us.getD i []).length ≤ 1048576 from fun us hu i hi => by
    obtain ⟨j, hj, e⟩ := List.getElem_of_mem (hu _ (getD_mem hi))
    have := hlt j hj
    rw [List.getD_eq_getElem?_getD, List.getElem?_eq_getElem hj] at this
    rw [← e]
    exact Nat.le_trans this (by omega))
  have HX1 := Lib.hid hx1
  clear hM hS hI hlt HDR
  have HRI := Lib.hid (fun W (q : Ext w1 W) => iDeskSay_any A1 B1 c1 d1 D L (some ⟨q1, 0, none⟩) x1 ts W (HM.out.ext q) (HS.out.ext q) (HI.out.ext q) (HLT.out ts fun _ k => k) (HE.out W (hx1.trans q)).1 (HE.out W (hx1.trans q)).2)
  have HRS := Lib.hid (fun W (q : Ext w1 W) => sDeskSay_any A1 B1 c1 d1 D L (some ⟨q1, 0, none⟩) x1 ts W (HM.out.ext q) (HS.out.ext q) (HI.out.ext q) (HLT.out ts fun _ k => k))
  have HSO := Lib.hid (fun W (q : Ext w1 W) => sDeskOk_any A1 B1 c1 d1 D L W (HM.out.ext q) (HS.out.ext q))
  have HBAD := Lib.hid (fun (h : ¬ (deskB D L = true ∧ ts.length ≤ 40)) => sayV_bad h)
  have HGOOD := Lib.hid (fun (h : deskB D L = true ∧ ts.length ≤ 40) => sayV_good h)
  have HHALF := Lib.hid (fun (h : deskB D L = true ∧ ts.length ≤ 40) => say_halves (h := ts.length / 2) h.1 h.2)
  obtain ⟨⟨X, Y, us⟩, hr⟩ : ∃ r, sayV D L ts = r := ⟨_, rfl⟩
  rw [hr] at HRI HRS HBAD HGOOD HHALF
  simp only at HRI HRS HGOOD HHALF
  clear hr hx1
  obtain ⟨w2, hw2⟩ : ∃ W, w1.alloc (.cells #[.slice A1 D.length c1, .slice B1 L.length d1] 26) = W := ⟨_, rfl⟩
  have hx2 : Ext w1 w2 := by rw [← hw2]; exact Ext.alloc _ _
  have hb2 := heap_alloc_new w1 (.cells #[.slice A1 D.length c1, .slice B1 L.length d1] 26)
  rw [hw2] at hb2
  have HC := Lib.hid (fun W (q : Ext w2 W) => two_cells ((q.block (heap_lt hb2)).trans hb2))
  obtain ⟨p0, p1⟩ := HC.out w2 (Ext.refl _)
  clear hb2
  go_wp2_with fail
  refine (HRI.out _ hx2).mono ?_
  rintro e w3 ⟨v3, v6, rfl, hO3, hu6, hx3⟩
  obtain ⟨A3, c3, B3, d3, rfl, hM3, hS3, -, -⟩ := hO3.split
  have HM3 := Lib.hid hM3
  have HS3 := Lib.hid hS3
  obtain ⟨hl6, -⟩ := LeafT.of_own hu6
  obtain ⟨X6, c6, rfl, hT6⟩ := hl6.txts
  obtain ⟨w4, hw4⟩ : ∃ W, w3.alloc (.cells #[.slice A3 X.length c3, .slice B3 Y.length d3] 26) = W := ⟨_, rfl⟩
  have hx34 : Ext w3 w4 := by rw [← hw4]; exact Ext.alloc _ _
  have hb4 := heap_alloc_new w3 (.cells #[.slice A3 X.length c3, .slice B3 Y.length d3] 26)
  rw [hw4] at hb4
  have HC4 := Lib.hid (fun W (q : Ext w4 W) => two_cells ((q.block (heap_lt hb4)).trans hb4))
  have HT6 := Lib.hid (fun W (q : Ext w4 W) => hT6.ext (hx34.trans q))
  have hx24 : Ext w2 w4 := hx3.trans hx34
  clear p0 p1 hO3 hM3 hS3 hb4 hu6 hl6 hT6
  obtain ⟨p0, p1⟩ := HC.out w4 hx24
  go_wp2_with fail
  refine (HRS.out _ (hx2.trans hx24)).mono ?_
  rintro e w5 ⟨A5, c5, B5, d5, v8, rfl, hM5, hS5, hu8, hx5⟩
  have HM5 := Lib.hid hM5
  have HS5 := Lib.hid hS5
  obtain ⟨hl8, -⟩ := LeafT.of_own hu8
  obtain ⟨X8, c8, rfl, hT8⟩ := hl8.txts
  have HT8 := Lib.hid hT8
  obtain ⟨w6, hw6⟩ : ∃ W, w5.alloc (.cells #[.slice A5 X.length c5, .slice B5 Y.length d5] 26) = W := ⟨_, rfl⟩
  have hx56 : Ext w5 w6 := by rw [← hw6]; exact Ext.alloc _ _
  have hb6 := heap_alloc_new w5 (.cells #[.slice A5 X.length c5, .slice B5 Y.length d5] 26)
  rw [hw6] at hb6
  obtain ⟨s0, s1⟩ := two_cells hb6
  have hx46 : Ext w4 w6 := hx5.trans hx56
  clear p0 p1 hM5 hS5 hb6 hu8 hl8 hT8
  obtain ⟨r0, r1⟩ := HC4.out w6 hx46
  have HA6 := Lib.hid (sameDesk_v A3 B3 c3 d3 X Y A5 B5 c5 d5 X Y w6 (HM3.out.ext (hx34.trans hx46)) (HS3.out.ext (hx34.trans hx46)) (HM5.out.ext hx56) (HS5.out.ext hx56) true (by simp))
  go_wp2_with fail
  refine HA6.out.mono ?_
  rintro e w7 ⟨rfl, hx7⟩
  clear s0 s1 r0 r1
  have HA7 := Lib.hid (sameTexts_any X6 X8 c6 c8 us w7 (HT6.out w7 (hx46.trans hx7)) (HT8.out.ext (hx56.trans hx7)))
  have HX467 := Lib.hid (hx46.trans hx7)
  clear hx7 hx46 hx56 hx5
  go_wp2_with fail
  refine HA7.out.mono ?_
  rintro e w7t ⟨rfl, mm, rfl⟩
  obtain ⟨w7t, hw7t⟩ : ∃ W, w7.drewN mm = W := ⟨_, rfl⟩
  have hx7t : Ext w7 w7t := by rw [← hw7t]; exact Ext.drewN' (Ext.refl _) _
  rw [hw7t]
  have hx47 : Ext w4 w7t := HX467.out.trans hx7t
  obtain ⟨p0, p1⟩ := HC.out w7t (hx24.trans hx47)
  have hx17 : Ext w1 w7t := hx2.trans (hx24.trans hx47)
  have HX47 := Lib.hid hx47
  have HX17 := Lib.hid hx17
  have HX37 := Lib.hid (hx34.trans hx47)
  have HX27 := Lib.hid (hx24.trans hx47)
  have HW := Lib.hid (HX1.out.trans hx17)
  have HSO7 := Lib.hid (HSO.out w7t hx17)
  clear hx7t hw7t hx47 hx17 hx24 hx34 hx3 hx2
  by_cases hgood : deskB D L = true ∧ ts.length ≤ 40
  · have HH := Lib.hid (HHALF.out hgood)
    have HDX := Lib.hid (HGOOD.out hgood)
    rw [hgood.1] at HSO7
    have hl40 : ¬ (40 : Int) < (ts.length : Nat) := by have := hgood.2; omega
    clear hgood HBAD HGOOD HHALF HRI HRS HSO
    go_wp2_with fail
    refine HSO7.out.mono ?_
    rintro e w8 ⟨rfl, hx8⟩
    clear p0 p1
    obtain ⟨hf, hhf⟩ : ∃ h, ts.length / 2 = h := ⟨_, rfl⟩
    rw [hhf] at HH
    have hfl : hf ≤ ts.length := by omega
    have tdiv : ((ts.length : Nat) : Int).tdiv 2 = (hf : Int) := by
      rw [Int.tdiv_eq_ediv_of_nonneg (by omega)]; omega
    have wdiv : IntKind.i64.wrap (((ts.length : Nat) : Int).tdiv 2) = (hf : Int) := by
      rw [tdiv]
      exact IntWalk.i64_in _ ⟨by omega, by omega⟩
    have wh : IntKind.i64.wrap (hf : Int) = (hf : Int) := IntWalk.i64_in _ ⟨by omega, by omega⟩
    have k1 : (0 : Int) ≤ (hf : Nat) := by omega
    have k2 : (hf : Int) ≤ (ts.length : Nat) := by omega
    have k3 : (hf : Int) ≤ (x1 : Nat) := by omega
    have k4 : (ts.length : Int) ≤ (x1 : Nat) := by omega
    have HX8 := Lib.hid hx8
    go_upto_region 11 with fail
    go_cut [10, 11] (fun s10 s11 wx => ∃ m10 A' c' B' d' X1 Y1 us1 v11, s10 = .pointer (some ⟨m10, 0, none⟩) ∧ v11 = s11 ∧ Hid (sayV D L (ts.take hf) = (X1, Y1, us1)) ∧ Hid (Ext w8 wx ∧ wx.heap[m10]? = some (.cells #[.slice A' (List.length X1) c', .slice B' (List.length Y1) d'] 26 (0, 0)) ∧ Mat wx A' c' X1 ∧ MatS wx B' d' Y1) ∧ Hid (∃ b, wx.ownsRow b 9 1 v11 (List.length us1) (us1.map tx)))
    case first =>
      have hx28 : Ext w2 w8 := HX27.out.trans hx8
      have hx18 : Ext w1 w8 := HX17.out.trans hx8
      have HRT0 := fun W (q : Ext w1 W) => iDeskSay_any A1 B1 c1 d1 D L (some ⟨q1, 0, none⟩) x1 (ts.take hf) W (HM.out.ext q) (HS.out.ext q) ((HI.out.ext q).take hfl).1 (HLT.out _ fun _ k => List.mem_of_mem_take k) (HE.out W (HX1.out.trans q)).1 (HE.out W (HX1.out.trans q)).2
      rw [(HI.out.take hfl).2] at HRT0
      have HRT := Lib.hid HRT0
      clear HRT0
      obtain ⟨p0, p1⟩ := HC.out w8 hx28
      have p0' : ∀ o, (w8.alloc o).cell? ⟨w1.heap.size, 0, none⟩ = some _ := fun o => (HC.out (w8.alloc o) (hx28.alloc' o)).1
      have p1' : ∀ o, (w8.alloc o).cell? ⟨w1.heap.size, 1, none⟩ = some _ := fun o => (HC.out (w8.alloc o) (hx28.alloc' o)).2
      obtain ⟨⟨X1, Y1, us1⟩, hr1⟩ : ∃ r, sayV D L (ts.take hf) = r := ⟨_, rfl⟩
      rw [hr1] at HRT
      simp only at HRT
      have HR1 := Lib.hid hr1
      clear hr1 hx28
      go_wp2_with fail
      go_region_law (go_simp; go_at_call 5; (fail_if_success (have q := hX10)); refine (HRT.out _ (by repeat (first | exact hx18 | apply Ext.alloc' | apply Ext.drew'))).mono ?_; rintro e w10 ⟨v10, u10, rfl, hO10, hU10, hX10⟩; obtain ⟨A10, c10, B10, d10, rfl, -, -, -, -⟩ := hO10.split; obtain ⟨z1, z2, z3, z4, -⟩ := keepB_set2 (b := 0) (heap_alloc_new w10 (.cells #[.slice none 0 0, .slice none 0 0] 26)) (.slice A10 X1.length c10) (.slice B10 Y1.length d10); (try have x8 : w10.heap[w8.heap.size]? = some (.cells #[.slice none 0 0, .slice none 0 0] 26 (0, 0)) := (hX10.block (by simp)).trans (alloc_at (by simp))); (try (have y8 := keepB_set2 (b := 0) x8 (.slice A10 X1.length c10) (.slice B10 Y1.length d10); obtain ⟨t1, t2, t3, t4, -⟩ := y8)))
      all_goals
        go_wp2_with fail
        go_meet
        case rel =>
          first
            | exact ⟨_, _, _, _, _, _, _, _, _, rfl, rfl, HR1, Lib.hid (own_stored (wc := w8.drew.alloc _) (by repeat (first | exact Ext.refl _ | apply Ext.alloc' | apply Ext.drew')) hX10 hO10 ⟨w10, Ext.refl _, x8, rfl⟩ (Nat.le_refl _)), Lib.hid ⟨_, own_far hU10 x8 _ _⟩⟩
            | exact ⟨_, _, _, _, _, _, _, _, _, rfl, rfl, HR1, Lib.hid (own_stored (wc := w8.drew) (by repeat (first | exact Ext.refl _ | apply Ext.alloc' | apply Ext.drew')) hX10 hO10 ⟨_, Ext.alloc _ _, heap_alloc_new _ _, alloc_set2 _ _ _ _ _ _⟩ hX10.size), Lib.hid ⟨_, hU10.alloc _⟩⟩
    case rest =>
      obtain ⟨m10, A10, c10, B10, d10, X1, Y1, us1, v11, rfl, rfl, HR1, HT, HU1⟩ := hcut
      rw [HR1.out] at HH
      simp only at HH
      obtain ⟨us2, hP2⟩ : ∃ r, (sayV X1 Y1 (ts.drop hf)).2.2 = r := ⟨_, rfl⟩
      rw [hP2] at HH
      obtain ⟨e1, e2, hsum⟩ := HH.out
      have HRU0 := fun W (q : Ext wc W) => iDeskSay_any A10 B10 c10 d10 X1 Y1 (if x1 = hf then some ⟨q1, 0, none⟩ else some ⟨q1, hf, none⟩) (x1 - hf) (ts.drop hf) W (HT.out.2.2.1.ext q) (HT.out.2.2.2.ext q) ((HI.out.ext ((HX17.out.trans HX8.out).trans (HT.out.1.trans q))).drop' hfl).1 (HLT.out _ fun _ k => List.mem_of_mem_drop k) (HE.out W (HX1.out.trans ((HX17.out.trans HX8.out).trans (HT.out.1.trans q)))).1 (HE.out W (HX1.out.trans ((HX17.out.trans HX8.out).trans (HT.out.1.trans q)))).2
      rw [(HI.out.drop' hfl).2, e1, e2, hP2] at HRU0
      obtain ⟨AX, hAX⟩ : ∃ a, (if x1 = hf then (some ⟨q1, 0, none⟩ : Option Addr) else some ⟨q1, hf, none⟩) = a := ⟨_, rfl⟩
      rw [hAX] at HRU0
      have HRU := Lib.hid HRU0
      have HSUM := Lib.hid hsum
      obtain ⟨v0, v1⟩ := two_cells HT.out.2.1
      have v0' : ∀ o, (wc.alloc o).cell? ⟨m10, 0, none⟩ = some _ := fun o => (Ext.alloc wc o).cell v0
      have v1' : ∀ o, (wc.alloc o).cell? ⟨m10, 1, none⟩ = some _ := fun o => (Ext.alloc wc o).cell v1
      have HWC := Lib.hid HT.out.1
      clear HRU0 HH hP2 hsum e1 e2 hx8
      go_upto_region 12 with fail
      go_cut [12, 13] (fun s12 s13 wx => ∃ m12 A' c' B' d' v13, s12 = .pointer (some ⟨m12, 0, none⟩) ∧ v13 = s13 ∧ Hid (Ext wc wx ∧ wx.heap[m12]? = some (.cells #[.slice A' (List.length X) c', .slice B' (List.length Y) d'] 26 (0, 0)) ∧ Mat wx A' c' X ∧ MatS wx B' d' Y) ∧ Hid (∃ b, wx.ownsRow b 9 1 v13 (List.length us2) (us2.map tx)) ∧ Hid (∃ b, wx.ownsRow b 9 1 v11 (List.length us1) (us1.map tx)))
      case first =>
        go_wp2_with fail
        go_region_law (go_simp; go_at_call 5; (fail_if_success (have q := hX11)); refine (HRU.out _ (by repeat (first | exact Ext.refl _ | apply Ext.alloc' | apply Ext.drew'))).mono ?_; rintro e w11 ⟨v12, u11, rfl, hO11, hU11, hX11⟩; obtain ⟨A11, c11, B11, d11, rfl, -, -, -, -⟩ := hO11.split; obtain ⟨z1, z2, z3, z4, -⟩ := keepB_set2 (b := 0) (heap_alloc_new w11 (.cells #[.slice none 0 0, .slice none 0 0] 26)) (.slice A11 X.length c11) (.slice B11 Y.length d11); (try have x8 : w11.heap[wc.heap.size]? = some (.cells #[.slice none 0 0, .slice none 0 0] 26 (0, 0)) := (hX11.block (by simp)).trans (alloc_at (by simp))); (try (have y8 := keepB_set2 (b := 0) x8 (.slice A11 X.length c11) (.slice B11 Y.length d11); obtain ⟨t1, t2, t3, t4, -⟩ := y8)))
        all_goals
          go_wp2_with fail
          go_meet
          case rel =>
            obtain ⟨bu, hbu⟩ := HU1.out
            first
              | exact ⟨_, _, _, _, _, _, rfl, rfl, Lib.hid (own_stored (wc := wc.drew.alloc _) (by repeat (first | exact Ext.refl _ | apply Ext.alloc' | apply Ext.drew')) hX11 hO11 ⟨w11, Ext.refl _, x8, rfl⟩ (Nat.le_refl _)), Lib.hid ⟨_, own_far hU11 x8 _ _⟩, Lib.hid ⟨bu, own_ext hbu (own_stored (w8 := wc) (wc := wc.drew.alloc _) (by repeat (first | exact Ext.refl _ | apply Ext.alloc' | apply Ext.drew')) hX11 hO11 ⟨w11, Ext.refl _, x8, rfl⟩ (Nat.le_refl _)).1⟩⟩
              | exact ⟨_, _, _, _, _, _, rfl, rfl, Lib.hid (own_stored (wc := wc.drew) (by repeat (first | exact Ext.refl _ | apply Ext.alloc' | apply Ext.drew')) hX11 hO11 ⟨_, Ext.alloc _ _, heap_alloc_new _ _, alloc_set2 _ _ _ _ _ _⟩ hX11.size), Lib.hid ⟨_, hU11.alloc _⟩, Lib.hid ⟨bu, own_ext hbu (own_stored (w8 := wc) (wc := wc.drew) (by repeat (first | exact Ext.refl _ | apply Ext.alloc' | apply Ext.drew')) hX11 hO11 ⟨_, Ext.alloc _ _, heap_alloc_new _ _, alloc_set2 _ _ _ _ _ _⟩ hX11.size).1⟩⟩
      case rest =>
        obtain ⟨m12, A12, c12, B12, d12, v13, rfl, rfl, HU, HU13, HU11⟩ := hcut
        have HX8W := Lib.hid (HWC.out.trans HU.out.1)
        have HX4W := Lib.hid ((HX47.out.trans HX8.out).trans HX8W.out)
        have HUC := Lib.hid (fun W (q : Ext wc W) => two_cells ((q.block (heap_lt HU.out.2.1)).trans HU.out.2.1))
        have HSD := Lib.hid (fun W (q : Ext wc W) => sameDesk_v A12 B12 c12 d12 X Y A3 B3 c3 d3 X Y W (HU.out.2.2.1.ext q) (HU.out.2.2.2.ext q) (HM3.out.ext ((HX37.out.trans (HX8.out.trans HX8W.out)).trans q)) (HS3.out.ext ((HX37.out.trans (HX8.out.trans HX8W.out)).trans q)) true (by simp))
        have HWw := Lib.hid ((HW.out.trans HX8.out).trans HX8W.out)
        have HBA := Lib.hid (below_all HDX.out.1)
        have HUS12 := Lib.hid (show us1.length + us2.length = us.length by rw [← HSUM.out, List.length_append])
        have hlb : (((us.length : Nat) : Int) == ((ts.length : Nat) : Int)) = true := by rw [HDX.out.2.1]; exact beq_self_eq_true _
        have HB0 := fun W (q : Ext wc W) => iDeskLine_say A3 B3 c3 d3 X Y qBelow W (HM3.out.ext ((HX37.out.trans (HX8.out.trans HX8W.out)).trans q)) (HS3.out.ext ((HX37.out.trans (HX8.out.trans HX8W.out)).trans q)) (by decide) (HE.out W (HWw.out.trans q)).1 (HE.out W (HWw.out.trans q)).2
        obtain ⟨XB, hXB⟩ : ∃ x, lineD X Y qBelow = x := ⟨_, rfl⟩
        obtain ⟨YB, hYB⟩ : ∃ x, lineL X Y qBelow = x := ⟨_, rfl⟩
        obtain ⟨TB, hTB⟩ : ∃ x, sayT X Y qBelow = x := ⟨_, rfl⟩
        rw [hXB, hYB, hTB] at HB0
        rw [hXB, hYB] at HBA
        have HG0 := fun A B c d W (q1 : Mat W A c XB) (q2 : MatS W B d YB) (q : Ext w W) => iDeskLine_say A B c d XB YB qGap W q1 q2 (by decide) (HE.out W q).1 (HE.out W q).2
        have HF0 := fun A B c d W (q1 : Mat W A c XB) (q2 : MatS W B d YB) (q : Ext w W) => iDeskLine_say A B c d XB YB qFar0 W q1 q2 (by decide) (HE.out W q).1 (HE.out W q).2
        rw [HBA.out.2.1] at HG0
        rw [HBA.out.2.2] at HF0
        obtain ⟨XG, hXG⟩ : ∃ x, lineD XB YB qGap = x := ⟨_, rfl⟩
        obtain ⟨YG, hYG⟩ : ∃ x, lineL XB YB qGap = x := ⟨_, rfl⟩
        obtain ⟨XF, hXF⟩ : ∃ x, lineD XB YB qFar0 = x := ⟨_, rfl⟩
        obtain ⟨YF, hYF⟩ : ∃ x, lineL XB YB qFar0 = x := ⟨_, rfl⟩
        rw [hXG, hYG] at HG0
        rw [hXF, hYF] at HF0
        have HB1 := Lib.hid HB0
        have HG1 := Lib.hid HG0
        have HF1 := Lib.hid HF0
        clear v0 v1 v0' v1' hAX HB0 HG0 HF0 hXB hYB hTB hXG hYG hXF hYF HBA tdiv wdiv wh k1 k2 k3 k4 HRU
        go_wp2_with fail
        go_loopg [14] us.length (fun g s14 wr => ∃ i : Nat, i + g = us.length ∧ s14 = .int .i64 i ∧ Hid (Ext wc wr))
        case atStart => exact ⟨0, by omega, rfl, Lib.hid (Ext.refl _)⟩
        case round =>
          obtain ⟨i, hi, rfl, HL⟩ := hrel
          by_cases hin : i < us.length
          · obtain ⟨g1, rfl⟩ : ∃ g', gk = g' + 1 := ⟨gk - 1, by omega⟩
            have hin' : (i : Int) < (us.length : Nat) := by omega
            obtain ⟨hc61, hc62, b6, o6, hA6, hc6⟩ := HT6.out wr (HX4W.out.trans HL.out)
            unfold maxLen at hc62
            obtain ⟨rfl, -⟩ := hA6 (by omega)
            have r1 := hc6 i hin
            have hTn := HDX.out.2.2 _ (getD_mem hin)
            obtain ⟨T, hT⟩ : ∃ T, us.getD i [] = T := ⟨_, rfl⟩
            rw [hT] at r1 hTn
            unfold tx at r1
            have hne1 : (T == []) = false := beq_eq_false_iff_ne.2 hTn
            have hne2 : T.isEmpty = false := by cases T with | nil => exact absurd rfl hTn | cons a l => rfl
            clear hT hc6 hA6
            go_wp2
            go_roundg g1
            case measure => omega
            case rel => exact ⟨i + 1, by omega, by go_num, HL⟩
          · have hin' : ¬ (i : Int) < (us.length : Nat) := by omega
            obtain ⟨r0, r1⟩ := HC4.out wr (HX4W.out.trans HL.out)
            go_wp2_with fail
            refine (HB1.out wr HL.out).mono ?_
            rintro e w20 ⟨v20, rfl, hO20, hx20⟩
            obtain ⟨A15, c15, B15, d15, rfl, hM15, hS15, -, -⟩ := hO20.split
            unfold tx
            obtain ⟨w21, hw21⟩ : ∃ W, w20.alloc (.cells #[.slice A15 XB.length c15, .slice B15 YB.length d15] 26) = W := ⟨_, rfl⟩
            have hx21 : Ext w20 w21 := by rw [← hw21]; exact Ext.alloc _ _
            have b21 := heap_alloc_new w20 (.cells #[.slice A15 XB.length c15, .slice B15 YB.length d15] 26)
            rw [hw21] at b21
            have HC21 := Lib.hid (fun W (q : Ext w21 W) => two_cells ((q.block (heap_lt b21)).trans b21))
            have HXA := Lib.hid (HL.out.trans (hx20.trans hx21))
            have HG2 := Lib.hid (HG1.out A15 B15 c15 d15 w21 (hM15.ext hx21) (hS15.ext hx21) (HWw.out.trans HXA.out))
            have HF2 := Lib.hid (fun W (q : Ext w21 W) => HF1.out A15 B15 c15 d15 W (hM15.ext (hx21.trans q)) (hS15.ext (hx21.trans q)) (HWw.out.trans (HXA.out.trans q)))
            obtain ⟨u0, u1⟩ := HC21.out w21 (Ext.refl _)
            clear r0 r1 hO20 hM15 hS15 hx20 hx21 b21
            go_wp2_with fail
            refine HG2.out.mono ?_
            rintro e w22 ⟨v22, rfl, hO22, hx22⟩
            obtain ⟨A17, c17, B17, d17, rfl, -, -, -, -⟩ := hO22.split
            unfold tx
            obtain ⟨w23, hw23⟩ : ∃ W, w22.alloc (.cells #[.slice A17 XG.length c17, .slice B17 YG.length d17] 26) = W := ⟨_, rfl⟩
            have hx23 : Ext w22 w23 := by rw [← hw23]; exact Ext.alloc _ _
            have HX23 := Lib.hid (hx22.trans hx23)
            clear u0 u1 hO22 hx22 hx23
            obtain ⟨u0, u1⟩ := HC21.out w23 HX23.out
            go_wp2_with fail
            refine (HF2.out w23 HX23.out).mono ?_
            rintro e w24 ⟨v24, rfl, hO24, hx24⟩
            obtain ⟨A19, c19, B19, d19, rfl, -, -, -, -⟩ := hO24.split
            unfold tx
            obtain ⟨w25, hw25⟩ : ∃ W, w24.alloc (.cells #[.slice A19 XF.length c19, .slice B19 YF.length d19] 26) = W := ⟨_, rfl⟩
            have hx25 : Ext w24 w25 := by rw [← hw25]; exact Ext.alloc _ _
            have HXB := Lib.hid (HXA.out.trans (HX23.out.trans (hx24.trans hx25)))
            clear u0 u1 hO24 hx24 hx25
            obtain ⟨r0, r1⟩ := HC4.out w25 (HX4W.out.trans HXB.out)
            obtain ⟨u0, u1⟩ := HUC.out w25 HXB.out
            go_wp2_with fail
            refine (HSD.out w25 HXB.out).mono ?_
            rintro e w26 ⟨rfl, hx26⟩
            have HXD := Lib.hid (HXB.out.trans hx26)
            clear r0 r1 u0 u1 hx26
            obtain ⟨bx1, hx11⟩ := HU11.out
            obtain ⟨bx3, hx13⟩ := HU13.out
            obtain ⟨W0, hW0⟩ : ∃ W, w26.alloc (.cells #[] 9) = W := ⟨_, rfl⟩
            have hx0 : Ext w26 W0 := by rw [← hW0]; exact Ext.alloc _ _
            have hac := Acc.empty (w0 := w26) (w := w26) 9 (Ext.refl _)
            rw [hW0] at hac
            have HA1 := Lib.hid (app_own (P := Tryz.prog) (T := 27) (E := 9) (ty := 27) Tryz.underlying27 infoS rfl (by decide) (.slice (some ⟨w26.heap.size, 0, none⟩) 0 0) v11 [] (us1.map tx) (by rw [List.length_map]; exact own_ext hx11 (HXD.out.trans hx0)) (map_cell us1) hac (by have q1 := HUS12.out; have q2 := HDX.out.2.1; rw [List.length_map]; simp; omega))
            have hlt13 : ∀ g, v13.ownBlock = some g → g < w26.heap.size := fun g hg => Nat.lt_of_lt_of_le (own_lt hx13 hg) HXD.out.size
            have HA2 := Lib.hid (fun v' w' (q : Acc w26 w' 9 v' ([] ++ us1.map tx) ∧ Beside (.slice (some ⟨w26.heap.size, 0, none⟩) 0 0) W0 w') => app_own (P := Tryz.prog) (T := 27) (E := 9) (ty := 27) Tryz.underlying27 infoS rfl (by decide) v' v13 ([] ++ us1.map tx) (us2.map tx) (by
              rw [List.length_map]
              refine own_beside (own_ext hx13 (HXD.out.trans hx0)) q.2 fun g hg e => ?_
              have := hlt13 g hg
              have e2 : g = w26.heap.size := Option.some.inj e
              omega) (map_cell us2) q.1 (by have q1 := HUS12.out; have q2 := HDX.out.2.1; rw [List.length_append, List.length_map, List.length_map]; simp; omega))
            clear hx11 hx13 hac hx0 hlt13
            have HMP := Lib.hid (show ([] ++ us1.map tx) ++ us2.map tx = us.map tx by rw [List.nil_append, ← List.map_append, HSUM.out])
            go_wp2_with (first | (at_builtin; refine wpList_exW (by go_simp) _ _ rfl _ _ rfl rfl HA1.out ?_; rintro v31 w31 hS31; have HS31 := Lib.hid hS31; clear hS31) | (at_builtin; refine wpList_exW (by go_simp) _ _ rfl _ _ rfl rfl (HA2.out _ _ HS31.out) ?_; rintro v32 w32 hS32; have h32 := hS32.1; rw [HMP.out] at h32; obtain ⟨X32, c32, rfl, hT32⟩ := Acc.texts h32; have HX32 := Lib.hid h32.1; have HT32 := Lib.hid hT32; clear hS32 h32 hT32))
            have HXE := Lib.hid (HXD.out.trans HX32.out)
            refine (sameTexts_any X32 X6 c32 c6 us w32 HT32.out (HT6.out w32 (HX4W.out.trans HXE.out))).mono ?_
            rintro e w33 ⟨rfl, mm2, rfl⟩
            go_wp2
            go_ret
            exact ⟨rfl, (HWw.out.trans HXE.out).drewN' _⟩
  · obtain ⟨rfl, rfl, rfl⟩ : X = [] ∧ Y = [] ∧ us = [] := by
      have := HBAD.out hgood
      simp only [Prod.mk.injEq] at this
      exact this
    clear HBAD HGOOD HHALF HRI HRS HSO
    have HND := Lib.hid (fun W (q : Ext w7t W) => noDesk_l A3 B3 c3 d3 [] [] W (HM3.out.ext (HX37.out.trans q)) (HS3.out.ext (HX37.out.trans q)) true (by simp))
    cases hd : deskB D L with
    | false =>
      rw [hd] at HSO7
      clear hgood hd
      go_wp2_with fail
      refine HSO7.out.mono ?_
      rintro e w8 ⟨rfl, hx8⟩
      obtain ⟨r0, r1⟩ := HC4.out w8 (HX47.out.trans hx8)
      clear p0 p1
      go_wp2_with fail
      refine (HND.out w8 hx8).mono ?_
      rintro e w9 ⟨rfl, hx9⟩
      go_wp2_with fail
      refine (alive_any _).mono ?_
      rintro e w10 ⟨rfl, hx10⟩
      go_wp2
      go_ret
      exact ⟨rfl, ((HW.out.trans hx8).trans hx9).trans hx10⟩
    | true =>
      rw [hd] at HSO7
      have hl40 : (40 : Int) < (ts.length : Nat) := by
        have : ¬ ts.length ≤ 40 := fun e => hgood ⟨hd, e⟩
        omega
      clear hgood hd
      go_wp2_with fail
      refine HSO7.out.mono ?_
      rintro e w8 ⟨rfl, hx8⟩
      obtain ⟨r0, r1⟩ := HC4.out w8 (HX47.out.trans hx8)
      clear p0 p1
      go_wp2_with fail
      refine (HND.out w8 hx8).mono ?_
      rintro e w9 ⟨rfl, hx9⟩
      go_wp2_with fail
      refine (alive_any _).mono ?_
      rintro e w10 ⟨rfl, hx10⟩
      go_wp2
      go_ret
      exact ⟨rfl, ((HW.out.trans hx8).trans hx9).trans hx10⟩
end Go.Proofs.YtnalcgcdohlfiaaGreatDoor
