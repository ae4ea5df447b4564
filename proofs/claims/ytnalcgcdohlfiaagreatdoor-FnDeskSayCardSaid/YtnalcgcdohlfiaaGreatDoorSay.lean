/- What is proved: impl.DeskSay returns the desk behind lines, and the answers. Conditions: those of each contract; the variables of the library hold what the rows list. -/
import Derived.Test.YtnalcgcdohlfiaaGreatDoorRun
import Derived.Test.YtnalcgcdohlfiaaGreatDoorPf
namespace Go.Proofs.YtnalcgcdohlfiaaGreatDoor
open Go.RowKit
/-- lines said one after the other -/
def sayL : List (List UInt8) → List (List Int) → List (List (List Int)) → List (List Int) × List (List (List Int)) × List (List UInt8)
  | [], D, L => (D, L, [])
  | T :: r, D, L => ((sayL r (lineD D L T) (lineL D L T)).1, (sayL r (lineD D L T) (lineL D L T)).2.1, sayT D L T :: (sayL r (lineD D L T) (lineL D L T)).2.2)
def sayV (D : List (List Int)) (L : List (List (List Int))) (ts : List (List UInt8)) : List (List Int) × List (List (List Int)) × List (List UInt8) :=
  if deskB D L = true ∧ ts.length ≤ 40 then sayL ts D L else ([], [], [])
theorem line_desk {D : List (List Int)} {L : List (List (List Int))} {T : List UInt8} (hd : deskB D L = true) : deskB (lineD D L T) (lineL D L T) = true := by
  unfold lineD lineL
  rw [if_pos hd, if_pos hd]
  exact ln_desk hd _
theorem sayL_desk : ∀ (ts : List (List UInt8)) {D : List (List Int)} {L : List (List (List Int))}, deskB D L = true → deskB (sayL ts D L).1 (sayL ts D L).2.1 = true
  | [], _, _, h => h
  | T :: r, _, _, h => sayL_desk r (line_desk (T := T) h)
theorem sayL_len : ∀ (ts : List (List UInt8)) (D : List (List Int)) (L : List (List (List Int))), (sayL ts D L).2.2.length = ts.length
  | [], _, _ => rfl
  | T :: r, D, L => congrArg Nat.succ (sayL_len r (lineD D L T) (lineL D L T))
/-- what DeskSay hands back -/
def SayR (w : World) (D : List (List Int)) (L : List (List (List Int))) (ws : List (List UInt8)) (e : Ending) (w' : World) : Prop :=
  ∃ v u, e = .returned (.tuple #[v, u]) ∧ OwnDk w.heap.size w' v D L ∧ w'.ownsRow w.heap.size 9 1 u ws.length (ws.map tx) ∧ Ext w w'
theorem own_far {W : World} {b m : Nat} {v : Value} {n : Nat} {xs : List Value} {x y : Value} (h : W.ownsRow b 9 1 v n xs) (hb : W.heap[m]? = some (.cells #[x, y] 26 (0, 0))) (a c : Value) : ((W.setCell ⟨m, 0, none⟩ a).setCell ⟨m, 1, none⟩ c).ownsRow b 9 1 v n xs := by
  refine ⟨h.1, ?_⟩
  rcases h.2 with q | ⟨g, cap, cur, e1, e2, e3, e4⟩
  · exact .inl q
  · refine .inr ⟨g, cap, cur, e1, e2, ?_, e4⟩
    have hne : g ≠ m := fun e => by
      subst e
      rw [hb] at e3
      injection e3 with e3
      injection e3 with _ e3
      exact absurd e3 (by decide)
    exact set_far (set_far e3 (by show g ≠ m; exact hne)) (by show g ≠ m; exact hne)
theorem RunS.beside {w W W' : World} {D : List (List Int)} {L : List (List (List Int))} {v : Value} {n : Nat} {xs : List Value} (h : RunS w D L W) (k : Beside v W W') (ho : W.ownsRow w.heap.size 9 1 v n xs) (hx : Ext w W') : RunS w D L W' := by
  obtain ⟨-, ⟨A0, c0, B0, d0, h2, h3⟩, x, y, h4⟩ := h
  exact ⟨hx, ⟨A0, c0, B0, d0, k.block ho (by decide) h2, h3.keep fun g cs t _ hg ht => (k.block ho (by rcases ht with e | e | e <;> (rw [e]; decide)) hg).trans hg.symm⟩, x, y, k.block ho (by decide) h4⟩
theorem Txts.besideD {w w' : World} {A : Option Addr} {c : Nat} {ps : List (List UInt8)} {b : Nat} (h : Txts w A c ps) (hb : ∀ g o, A = some ⟨g, o, none⟩ → 0 < ps.length → g < b) (k : ∀ g, g < b → w'.heap[g]? = w.heap[g]?) : Txts w' A c ps := by
  obtain ⟨h1, h2, g, o, h3, h4⟩ := h
  by_cases h0 : 0 < ps.length
  · obtain ⟨e, cs, hg⟩ := h3 h0
    have hk := k g (hb g o e h0)
    exact ⟨h1, h2, g, o, fun _ => ⟨e, cs, hk.trans hg⟩, fun i hi => (cell_of_heap hk).trans (h4 i hi)⟩
  · exact ⟨h1, h2, g, o, fun q => absurd q h0, fun i hi => absurd hi (by omega)⟩
set_option maxRecDepth 100000 in
set_option maxHeartbeats 8000000 in
theorem iDeskSay_any (A B : Option Addr) (c d : Nat) (D : List (List Int)) (L : List (List (List Int))) (X : Option Addr) (cx : Nat) (ts : List (List UInt8)) (w : World) (h1 : Mat w A c D) (h2 : MatS w B d L) (hx : Txts w X cx ts) (hlt : ∀ i, i < ts.length → (ts.getD i []).length ≤ 1048576) (hE : Env w) (ht : Tab w) :
    Calls Tryz.prog 5 #[.agg #[.slice A D.length c, .slice B L.length d], .slice X ts.length cx] w (SayR w (sayV D L ts).1 (sayV D L ts).2.1 (sayV D L ts).2.2) := by
  have H1 := Lib.hid h1
  have H2 := Lib.hid h2
  have HX := Lib.hid (fun W (q : Ext w W) => hx.ext q)
  have HE := Lib.hid (fun W (q : Ext w W) => And.intro (hE.ext q) (ht.ext q))
  have HLT := Lib.hid hlt
  have hcx1 := hx.1
  have hcx2 := hx.2.1
  unfold maxLen at hcx2
  clear h1 h2 hx hE ht hlt
  have HDK := Lib.hid (fun W (q : Ext w W) => isDesk_any A B c d D L W (H1.out.ext q) (H2.out.ext q))
  have hb0 := fun W (q : Ext ((w.alloc (.cells #[.slice A D.length c, .slice B L.length d] 26)).alloc (.cells #[.slice none 0 0, .slice none 0 0] 26)) W) => two_blocks q
  have HB0 := Lib.hid hb0
  have HXT := Lib.hid (show Ext w ((w.alloc (.cells #[.slice A D.length c, .slice B L.length d] 26)).alloc (.cells #[.slice none 0 0, .slice none 0 0] 26)) from (Ext.alloc _ _).alloc' _)
  clear hb0
  by_cases hg : deskB D L = true ∧ ts.length ≤ 40
  rotate_left
  · have HV : Hid (sayV D L ts = ([], [], [])) := Lib.hid (by unfold sayV; rw [if_neg hg])
    rw [HV.out]
    cases hd : deskB D L with
    | false =>
      rw [hd] at HDK
      clear hd hg
      go_enter Tryz.func5, Tryz.ntmps5
      go_wp2_with fail
      refine (HDK.out _ HXT.out).mono ?_
      rintro e w1 ⟨rfl, hx1⟩
      obtain ⟨b0, b1, hxw, -⟩ := HB0.out w1 hx1
      obtain ⟨t1, t2, t3, t4, t5, t6, -⟩ := keepB_set2 (b := 0) b1 (.slice none 0 0) (.slice none 0 0)
      have HXW := Lib.hid hxw
      clear b0 b1 hx1 hxw
      go_wp2
      refine bodyPost_ret (v := .tuple #[.agg #[.slice none 0 0, .slice none 0 0], .slice none 0 0]) (by simp [results, Tryz.results5, go_sem, t5, t6]) rfl ?_
      exact ⟨_, _, rfl, zero_desk' _ _, World.ownsRow_nil _ _ _ _, (HXW.out.setCell' (p := ⟨w.heap.size + 1, 0, none⟩) (by show w.heap.size ≤ w.heap.size + 1; omega) _).setCell' (p := ⟨w.heap.size + 1, 1, none⟩) (by show w.heap.size ≤ w.heap.size + 1; omega) _⟩
    | true =>
      rw [hd] at HDK
      have hl40 : (40 : Int) < (ts.length : Nat) := by
        have : ¬ ts.length ≤ 40 := fun e => hg ⟨hd, e⟩
        omega
      clear hd hg
      go_enter Tryz.func5, Tryz.ntmps5
      go_wp2_with fail
      refine (HDK.out _ HXT.out).mono ?_
      rintro e w1 ⟨rfl, hx1⟩
      obtain ⟨b0, b1, hxw, -⟩ := HB0.out w1 hx1
      obtain ⟨t1, t2, t3, t4, t5, t6, -⟩ := keepB_set2 (b := 0) b1 (.slice none 0 0) (.slice none 0 0)
      have HXW := Lib.hid hxw
      clear b0 b1 hx1 hxw
      go_wp2
      refine bodyPost_ret (v := .tuple #[.agg #[.slice none 0 0, .slice none 0 0], .slice none 0 0]) (by simp [results, Tryz.results5, go_sem, t5, t6]) rfl ?_
      exact ⟨_, _, rfl, zero_desk' _ _, World.ownsRow_nil _ _ _ _, (HXW.out.setCell' (p := ⟨w.heap.size + 1, 0, none⟩) (by show w.heap.size ≤ w.heap.size + 1; omega) _).setCell' (p := ⟨w.heap.size + 1, 1, none⟩) (by show w.heap.size ≤ w.heap.size + 1; omega) _⟩
  have HV : Hid (sayV D L ts = sayL ts D L) := Lib.hid (by unfold sayV; rw [if_pos hg])
  obtain ⟨hd, hl40⟩ := hg
  rw [hd] at HDK
  have HDB := Lib.hid hd
  have hl' : ¬ (40 : Int) < (ts.length : Nat) := by omega
  rw [HV.out]
  clear hd HV
  go_enter Tryz.func5, Tryz.ntmps5
  go_wp2_with fail
  refine (HDK.out _ HXT.out).mono ?_
  rintro e w1 ⟨rfl, hx1⟩
  obtain ⟨b0, b1, hxw, -⟩ := HB0.out w1 hx1
  obtain ⟨t0, t1⟩ := two_cells b0
  go_wp2_with fail
  refine (copyDesk_any A B c d D L _ (H1.out.ext hxw) (H2.out.ext hxw) (deskB_sm HDB.out)).mono ?_
  rintro e w2 ⟨v2, rfl, hO2, hx2⟩
  obtain ⟨A2, c2, B2, d2, rfl, -, -, -, -⟩ := hO2.split
  have HS2 := Lib.hid (RunS.start (hx1.trans hx2) hxw.size hO2)
  clear b0 b1 t0 t1
  obtain ⟨b0, b1, -, -⟩ := HB0.out w2 (hx1.trans hx2)
  obtain ⟨t1, t2, t3, t4, t5, t6, -⟩ := keepB_set2 (b := 0) b0 (.slice A2 D.length c2) (.slice B2 L.length d2)
  obtain ⟨w3, hw3⟩ : ∃ W, (w2.setCell ⟨w.heap.size, 0, none⟩ (.slice A2 D.length c2)).setCell ⟨w.heap.size, 1, none⟩ (.slice B2 L.length d2) = W := ⟨_, rfl⟩
  rw [hw3] at HS2 t5 t6
  have HA2 := Lib.hid (And.intro (HS2.out.ext (Ext.alloc w3 (.cells #[] 9))) (Acc.empty (w0 := w) (w := w3) 9 HS2.out.1).2)
  clear b0 b1 hO2 hx1 hx2 hxw HDK
  go_wp2_with fail
  clear t1 t2 t3 t4 t5 t6
  go_loopg [6, 25] ts.length (fun g s6 s25 wr => ∃ (i : Nat) (D' : List (List Int)) (L' : List (List (List Int))) (ws : List (List UInt8)) (v : Value), i + g = ts.length ∧ s25 = .int .i64 i ∧ v = s6 ∧ Hid (deskB D' L' = true ∧ ws.length = i ∧ (sayL ts D L).1 = (sayL (ts.drop i) D' L').1 ∧ (sayL ts D L).2.1 = (sayL (ts.drop i) D' L').2.1 ∧ (sayL ts D L).2.2 = ws ++ (sayL (ts.drop i) D' L').2.2) ∧ Hid (RunS w D' L' wr ∧ wr.ownsRow w.heap.size 9 1 v ws.length (ws.map tx)))
  case atStart => exact ⟨0, D, L, [], _, by omega, rfl, rfl, Lib.hid ⟨HDB.out, rfl, rfl, rfl, rfl⟩, HA2⟩
  case round =>
    clear HS2 HA2
    obtain ⟨i, D', L', ws, v, hi, rfl, rfl, HI, HS⟩ := hrel
    obtain ⟨hxw, ⟨A5, c5, B5, d5, hb5, hO5⟩, x5, y5, hb6⟩ := HS.out.1
    by_cases hin : i < ts.length
    · obtain ⟨g1, rfl⟩ : ∃ g', gk = g' + 1 := ⟨gk - 1, by omega⟩
      have hin' : (i : Int) < (ts.length : Nat) := by omega
      obtain ⟨-, -, bX, oX, hAX, hcX⟩ := HX.out wr hxw
      obtain ⟨rfl, -⟩ := hAX (by omega)
      have r1 := hcX i hin
      obtain ⟨T, hT⟩ : ∃ T, ts.getD i [] = T := ⟨_, rfl⟩
      rw [hT] at r1
      have hTl : T.length ≤ 1048576 := by rw [← hT]; exact HLT.out i hin
      have hdrop : ts.drop i = T :: ts.drop (i + 1) := by
        rw [List.drop_eq_getElem_cons hin, ← hT]
        simp [List.getD, hin]
      obtain ⟨hM5, hS5⟩ : Mat wr A5 c5 D' ∧ MatS wr B5 d5 L' := by
        obtain ⟨Aq, cq, Bq, dq, eq, m1q, m2q, -, -⟩ := hO5.split
        simp only [Value.agg.injEq, Array.mk.injEq, List.cons.injEq, Value.slice.injEq] at eq
        obtain ⟨⟨rfl, -, rfl⟩, ⟨rfl, -, rfl⟩, -⟩ := eq
        exact ⟨m1q, m2q⟩
      have hln := deskLine_any A5 B5 c5 d5 D' L' T (askV D' T) wr hM5 hS5 HI.out.1 hTl (HE.out wr hxw).1 (fun _ W q => asked_any A5 c5 D' T W (hM5.ext q) (deskB_parts HI.out.1).1 hTl (HE.out W (hxw.trans q)).1 (HE.out W (hxw.trans q)).2)
      have e1 : lnD D' L' (rdS T) = lineD D' L' T := by unfold lineD; rw [if_pos HI.out.1]
      have e2 : lnL D' L' (rdS T) = lineL D' L' T := by unfold lineL; rw [if_pos HI.out.1]
      have e3 : lnT D' L' (askV D' T) (rdS T) = sayT D' L' T := by unfold sayT lineT; rw [if_pos HI.out.1]
      rw [e1, e2, e3] at hln
      have hnext : sayL (ts.drop i) D' L' = ((sayL (ts.drop (i + 1)) (lineD D' L' T) (lineL D' L' T)).1, (sayL (ts.drop (i + 1)) (lineD D' L' T) (lineL D' L' T)).2.1, sayT D' L' T :: (sayL (ts.drop (i + 1)) (lineD D' L' T) (lineL D' L' T)).2.2) := by rw [hdrop]; rfl
      have hdk := line_desk (T := T) HI.out.1
      obtain ⟨D6, hD6⟩ : ∃ x, lineD D' L' T = x := ⟨_, rfl⟩
      obtain ⟨L6, hL6⟩ : ∃ x, lineL D' L' T = x := ⟨_, rfl⟩
      obtain ⟨TT, hTT⟩ : ∃ x, sayT D' L' T = x := ⟨_, rfl⟩
      rw [hD6, hL6, hTT] at hln hnext
      rw [hD6, hL6] at hdk
      have HI2 : Hid (deskB D6 L6 = true ∧ (ws ++ [TT]).length = i + 1 ∧ (sayL ts D L).1 = (sayL (ts.drop (i + 1)) D6 L6).1 ∧ (sayL ts D L).2.1 = (sayL (ts.drop (i + 1)) D6 L6).2.1 ∧ (sayL ts D L).2.2 = (ws ++ [TT]) ++ (sayL (ts.drop (i + 1)) D6 L6).2.2) := Lib.hid (by
        obtain ⟨-, f2, f3, f4, f5⟩ := HI.out
        rw [hnext] at f3 f4 f5
        exact ⟨hdk, by rw [List.length_append, List.length_singleton, f2], f3, f4, by rw [f5]; simp⟩)
      have HLN := Lib.hid hln
      have hwl := HI.out.2.1
      have HWL := Lib.hid hwl
      obtain ⟨p0, p1⟩ := two_cells hb5
      unfold tx at r1
      clear hT hdrop hM5 hS5 hln e1 e2 e3 hnext hdk hD6 hL6 hTT hAX hcX hwl hb5 hO5 hb6 HI
      go_wp2_with fail
      refine HLN.out.mono ?_
      rintro e w6 ⟨v6, rfl, hO6, hx6⟩
      obtain ⟨A6, c6, B6, d6, rfl, -, -, -, -⟩ := hO6.split
      unfold tx
      obtain ⟨w7, hw7⟩ : ∃ W, w6.alloc (.cells #[.slice A6 D6.length c6, .slice B6 L6.length d6] 26) = W := ⟨_, rfl⟩
      have hx67 : Ext w6 w7 := by rw [← hw7]; exact Ext.alloc _ _
      have hb7 := heap_alloc_new w6 (.cells #[.slice A6 D6.length c6, .slice B6 L6.length d6] 26)
      rw [hw7] at hb7
      obtain ⟨y0, y1⟩ := two_cells hb7
      have hx07 : Ext wr w7 := hx6.trans hx67
      have hT7 := HS.out.1.take hx07 (hO6.keep (KeepB.of_ext hx67))
      obtain ⟨-, ⟨Aq, cq, Bq, dq, hbq, -⟩, -⟩ := HS.out.1.ext hx07
      obtain ⟨t1, t2, t3, t4, t5, t6, -⟩ := keepB_set2 (b := 0) hbq (.slice A6 D6.length c6) (.slice B6 L6.length d6)
      have hown := own_far (Acc.on (show Acc w wr 9 v (ws.map tx) from ⟨hxw, by have h := HS.out.2; rw [List.length_map]; exact h⟩) hx07).2 hbq (.slice A6 D6.length c6) (.slice B6 L6.length d6)
      obtain ⟨w8, hw8⟩ : ∃ W, (w7.setCell ⟨w.heap.size, 0, none⟩ (.slice A6 D6.length c6)).setCell ⟨w.heap.size, 1, none⟩ (.slice B6 L6.length d6) = W := ⟨_, rfl⟩
      rw [hw8] at hT7 hown t5 t6
      have HAC := Lib.hid (show Acc w w8 9 v (ws.map tx) from ⟨hT7.1, hown⟩)
      have HT8 := Lib.hid (hT7.ext (Ext.alloc w8 (.cells #[.string ⟨TT.toArray⟩] 9)))
      have hwn : ws.length ≤ 1000 := by have := HWL.out; omega
      have HPU := Lib.hid (app_run (P := Tryz.prog) (w0 := w) (T := 27) (E := 9) (ty := 27) Tryz.underlying27 infoS rfl (by decide) v (ws.map tx) ⟨w8.heap.size, 0, none⟩ 1 1 [.string ⟨TT.toArray⟩] rfl (one_news (cell_new0 w8 _ _) rfl) (fun u hu => by simp at hu; rw [hu]; rfl) (HAC.out.on (Ext.alloc w8 (.cells #[.string ⟨TT.toArray⟩] 9))) (by simp; omega))
      have HOA := Lib.hid (HAC.out.on (Ext.alloc w8 (.cells #[.string ⟨TT.toArray⟩] 9))).2
      have hmap : (ws ++ [TT]).map tx = ws.map tx ++ [.string ⟨TT.toArray⟩] := by rw [List.map_append]; rfl
      have HMP := Lib.hid hmap
      clear hO6 hx6 hx67 hb7 hT7 hbq hown hmap p0 p1 hx07 HS
      go_wp2_with (at_builtin; go_loud (refine wpList_ex rfl _ _ rfl _ (.slice (some ⟨_, 0, none⟩) 1 1) rfl rfl HPU.out ?_; rintro v9 w9 hS9))
      go_roundg g1
      case measure => omega
      case rel =>
        refine ⟨i + 1, D6, L6, ws ++ [TT], _, by omega, by go_num, rfl, HI2, Lib.hid ⟨HT8.out.beside hS9.2.1 HOA.out hS9.1.1, ?_⟩⟩
        have h9 := hS9.1.2
        rw [HMP.out]
        have hl9 : (ws.map tx ++ [Value.string ⟨TT.toArray⟩]).length = (ws ++ [TT]).length := by simp
        rw [hl9] at h9
        exact h9
    · have hin' : ¬ (i : Int) < (ts.length : Nat) := by omega
      obtain rfl : gk = 0 := by omega
      have hdrop : ts.drop i = [] := List.drop_of_length_le (by omega)
      have HF : Hid (sayL ts D L = (D', L', ws)) := Lib.hid (by
        obtain ⟨-, -, f3, f4, f5⟩ := HI.out
        rw [hdrop] at f3 f4 f5
        have e : sayL ts D L = ((sayL ts D L).1, (sayL ts D L).2.1, (sayL ts D L).2.2) := rfl
        rw [e, f3, f4, f5]
        simp [sayL])
      obtain ⟨p0, p1⟩ := two_cells hb5
      obtain ⟨t1, t2, t3, t4, t5, t6, -⟩ := keepB_set2 (b := 0) hb6 (.slice A5 D'.length c5) (.slice B5 L'.length d5)
      have HFF := Lib.hid (And.intro (hO5.keep (keepB_set2 hb6 (.slice A5 D'.length c5) (.slice B5 L'.length d5)).2.2.2.2.2.2) (And.intro (own_far HS.out.2 hb6 (.slice A5 D'.length c5) (.slice B5 L'.length d5)) ((hxw.setCell' (p := ⟨w.heap.size + 1, 0, none⟩) (by show w.heap.size ≤ w.heap.size + 1; omega) (.slice A5 D'.length c5)).setCell' (p := ⟨w.heap.size + 1, 1, none⟩) (by show w.heap.size ≤ w.heap.size + 1; omega) (.slice B5 L'.length d5))))
      clear hb5 hO5 hb6 HI HS hxw hdrop
      go_wp2_with fail
      refine bodyPost_ret (v := .tuple #[.agg #[.slice A5 D'.length c5, .slice B5 L'.length d5], v]) (by simp [results, Tryz.results5, go_sem, t5, t6]) rfl ?_
      rw [HF.out]
      exact ⟨_, _, rfl, HFF.out.1, HFF.out.2.1, HFF.out.2.2⟩
end Go.Proofs.YtnalcgcdohlfiaaGreatDoor
