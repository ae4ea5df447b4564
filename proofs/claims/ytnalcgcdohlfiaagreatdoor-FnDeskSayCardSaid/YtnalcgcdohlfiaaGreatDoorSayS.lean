/- What is proved: spec.DeskSay returns the desk behind lines, and the answers. Conditions: those of each contract. -/
import Derived.Test.YtnalcgcdohlfiaaGreatDoorSay
import Derived.Test.YtnalcgcdohlfiaaGreatDoorExd
import Derived.Deep.RegionLaw
import Derived.Deep.DeepCutAuto
namespace Go.Proofs.YtnalcgcdohlfiaaGreatDoor
open Go.RowKit
/-- a desk to be read and answers of one's own handed back -/
def SayS (w : World) (D : List (List Int)) (L : List (List (List Int))) (ws : List (List UInt8)) (e : Ending) (w' : World) : Prop :=
  ∃ A c B d v, e = .returned (.tuple #[.agg #[.slice A (List.length D) c, .slice B (List.length L) d], v]) ∧ Mat w' A c D ∧ MatS w' B d L ∧ w'.ownsRow w.heap.size 9 1 v ws.length (ws.map tx) ∧ Ext w w'
theorem alloc_set2x (w : World) (a b x y : Value) (T : TypeId) : w.alloc (.cells #[a, b] T) = ((w.alloc (.cells #[x, y] T)).setCell ⟨w.heap.size, 0, none⟩ a).setCell ⟨w.heap.size, 1, none⟩ b := by
  first | (go_simp; done) | (simp [go_sem]; done) | (simp [World.alloc_eq, World.setCell]; done)
/-- what holds wherever the blocks from b to e stay -/
def FromR (b e : Nat) (w : World) (P : World → Prop) : Prop := ∀ W : World, (∀ k, b ≤ k → k < e → W.heap[k]? = w.heap[k]?) → P W
theorem FromR.now {b e : Nat} {w : World} {P : World → Prop} (h : FromR b e w P) : P w := h w fun _ _ _ => rfl
theorem FromR.hi {b e : Nat} {w w' : World} {P : World → Prop} (h : FromR b e w P) (k : ∀ q, b ≤ q → q < e → w'.heap[q]? = w.heap[q]?) : FromR b e w' P := fun W hW => h W fun q q1 q2 => (hW q q1 q2).trans (k q q1 q2)
/-- the saying under way: the desk in block m7 -/
def SyS (w : World) (m7 : Nat) (D : List (List Int)) (L : List (List (List Int))) (v : Value) (ws : List (List UInt8)) (W : World) : Prop :=
  Ext w W ∧ (∃ x y, W.heap[w.heap.size + 1]? = some (.cells #[x, y] 26 (0, 0))) ∧ w.heap.size + 2 ≤ m7 ∧
    (∃ A c B d b e, W.heap[m7]? = some (.cells #[.slice A D.length c, .slice B L.length d] 26 (0, 0)) ∧ w.heap.size + 2 ≤ b ∧ e ≤ W.heap.size ∧ FromR b e W (fun W => Mat W A c D ∧ MatS W B d L) ∧ ∀ g, v.ownBlock = some g → g < b ∨ e ≤ g) ∧
    W.ownsRow w.heap.size 9 1 v ws.length (ws.map tx)
theorem SyS.acc {w : World} {m7 : Nat} {D : List (List Int)} {L : List (List (List Int))} {v : Value} {ws : List (List UInt8)} {W : World} (h : SyS w m7 D L v ws W) : Acc w W 9 v (ws.map tx) := ⟨h.1, by have := h.2.2.2.2; rw [List.length_map]; exact this⟩
/-- one line more: the new desk -/
theorem SyS.take {w : World} {m7 : Nat} {D D6 : List (List Int)} {L L6 : List (List (List Int))} {v : Value} {ws : List (List UInt8)} {W W' : World} (h : SyS w m7 D L v ws W) (k : Ext W W') {A B : Option Addr} {c d : Nat} (hF : From W.heap.size W' (fun W => Mat W A c D6 ∧ MatS W B d L6)) :
    SyS w m7 D6 L6 v ws ((W'.setCell ⟨m7, 0, none⟩ (.slice A D6.length c)).setCell ⟨m7, 1, none⟩ (.slice B L6.length d)) := by
  have hac := h.acc
  obtain ⟨h1, ⟨x, y, h2⟩, h3, ⟨A0, c0, B0, d0, b, e, h4, h5, h6, -, h7⟩, h8⟩ := h
  have b2 := (k.block (heap_lt h2)).trans h2
  have b4 := (k.block (heap_lt h4)).trans h4
  have hlt := heap_lt h4
  have hsz := k.size
  have hown := own_far (hac.on k).2 b4 (.slice A D6.length c) (.slice B L6.length d)
  have hgl : ∀ g, v.ownBlock = some g → g < W.heap.size := fun g hg => own_lt hac.2 hg
  refine ⟨((h1.trans k).setCell' (p := ⟨m7, 0, none⟩) (by show w.heap.size ≤ m7; omega) _).setCell' (p := ⟨m7, 1, none⟩) (by show w.heap.size ≤ m7; omega) _, ⟨x, y, set_far (set_far b2 (by show w.heap.size + 1 ≠ m7; omega)) (by show w.heap.size + 1 ≠ m7; omega)⟩, h3, ⟨A, c, B, d, W.heap.size, W'.heap.size, set_1 (set_0 b4), by omega, by simp [World.setCell], fun W2 hW2 => hF W2 fun q q1 q2 => (hW2 q q1 q2).trans ((Below.heap_setCell _ _ _ _ (by show q ≠ m7; omega)).trans (Below.heap_setCell _ _ _ _ (by show q ≠ m7; omega))), fun g hg => Or.inl (hgl g hg)⟩, ?_⟩
  rw [List.length_map] at hown
  exact hown
theorem SyS.ext {w : World} {m7 : Nat} {D : List (List Int)} {L : List (List (List Int))} {v : Value} {ws : List (List UInt8)} {W W' : World} (h : SyS w m7 D L v ws W) (k : Ext W W') : SyS w m7 D L v ws W' := by
  have hac := h.acc
  obtain ⟨h1, ⟨x, y, h2⟩, h3, ⟨A0, c0, B0, d0, b, e, h4, h5, h6, hF, h7⟩, h8⟩ := h
  have hown := (hac.on k).2
  rw [List.length_map] at hown
  exact ⟨h1.trans k, ⟨x, y, (k.block (heap_lt h2)).trans h2⟩, h3, ⟨A0, c0, B0, d0, b, e, (k.block (heap_lt h4)).trans h4, h5, by have := k.size; omega, hF.hi fun q _ q2 => k.block (by omega), h7⟩, hown⟩
theorem SyS.push {w : World} {m7 : Nat} {D : List (List Int)} {L : List (List (List Int))} {v v' : Value} {ws : List (List UInt8)} {T : List UInt8} {W W' : World} (h : SyS w m7 D L v ws W) (hk : Acc w W' 9 v' (ws.map tx ++ [tx T]) ∧ Beside v W W' ∧ Stays v v' W.heap.size) : SyS w m7 D L v' (ws ++ [T]) W' := by
  have hac := h.acc
  obtain ⟨h1, ⟨x, y, h2⟩, h3, ⟨A0, c0, B0, d0, b, e, h4, h5, h6, hF, h7⟩, h8⟩ := h
  obtain ⟨k1, k2, k3⟩ := hk
  have hb2 := k2.block hac.2 (by decide) h2
  have hb4 := k2.block hac.2 (by decide) h4
  have hs := k2.1
  have hmap : (ws ++ [T]).map tx = ws.map tx ++ [tx T] := by rw [List.map_append]; rfl
  have hl9 : (ws.map tx ++ [tx T]).length = (ws ++ [T]).length := by simp
  have h9 := k1.2
  rw [hl9, ← hmap] at h9
  refine ⟨k1.1, ⟨x, y, hb2⟩, h3, ⟨A0, c0, B0, d0, b, e, hb4, h5, by omega, hF.hi fun q q1 q2 => k2.2 q (by omega) fun e2 => (by have := h7 q e2.symm; omega), fun g hg => ?_⟩, h9⟩
  rcases k3 with e1 | e1
  · exact h7 g (e1 ▸ hg)
  · rw [e1] at hg
    injection hg with hg
    exact Or.inr (by omega)
set_option maxRecDepth 100000 in
set_option maxHeartbeats 8000000 in
theorem sDeskSay_any (A B : Option Addr) (c d : Nat) (D : List (List Int)) (L : List (List (List Int))) (X : Option Addr) (cx : Nat) (ts : List (List UInt8)) (w : World) (h1 : Mat w A c D) (h2 : MatS w B d L) (hx : Txts w X cx ts) (hlt : ∀ i, i < ts.length → (ts.getD i []).length ≤ 1048576) :
    Calls Tryz.prog 6 #[.agg #[.slice A D.length c, .slice B L.length d], .slice X ts.length cx] w (SayS w (sayV D L ts).1 (sayV D L ts).2.1 (sayV D L ts).2.2) := by
  have HX := Lib.hid (fun W (q : Ext w W) => hx.ext q)
  have HLT := Lib.hid hlt
  have hcx1 := hx.1
  have hcx2 := hx.2.1
  unfold maxLen at hcx2
  have HDK := Lib.hid (fun W (q : Ext w W) => sDeskOk_any A B c d D L W (h1.ext q) (h2.ext q))
  obtain ⟨w0, hw0⟩ : ∃ W, ((w.alloc (.cells #[.slice A D.length c, .slice B L.length d] 26)).alloc (.cells #[.slice none 0 0, .slice none 0 0] 26)).alloc (.cells #[] 9) = W := ⟨_, rfl⟩
  have hx0 : Ext ((w.alloc (.cells #[.slice A D.length c, .slice B L.length d] 26)).alloc (.cells #[.slice none 0 0, .slice none 0 0] 26)) w0 := by rw [← hw0]; exact Ext.alloc _ _
  have hs0 : w0.heap.size = w.heap.size + 3 := by rw [← hw0]; simp
  obtain ⟨b0, b1, hxw, -⟩ := two_blocks hx0
  have HA0 := Lib.hid (show Acc w w0 9 (.slice (some ⟨w.heap.size + 1 + 1, 0, none⟩) 0 0) [] from by
    have := Acc.empty (w0 := w) 9 (show Ext w ((w.alloc (.cells #[.slice A D.length c, .slice B L.length d] 26)).alloc (.cells #[.slice none 0 0, .slice none 0 0] 26)) from (Ext.alloc _ _).alloc' _)
    rw [hw0] at this
    simpa using this)
  have HB0 := Lib.hid (fun W (q : Ext w0 W) => And.intro ((q.block (heap_lt b0)).trans b0) ((q.block (heap_lt b1)).trans b1))
  have HX0 := Lib.hid hxw
  have HS0 := Lib.hid hs0
  by_cases hg : deskB D L = true ∧ ts.length ≤ 40
  rotate_left
  · have HV : Hid (sayV D L ts = ([], [], [])) := Lib.hid (by unfold sayV; rw [if_neg hg])
    rw [HV.out]
    have hfin : ∀ w1, Ext w0 w1 → SayS w [] [] [] (.returned (.tuple #[.agg #[.slice none 0 0, .slice none 0 0], .slice (some ⟨w.heap.size + 1 + 1, 0, none⟩) 0 0])) ((w1.setCell ⟨w.heap.size + 1, 0, none⟩ (.slice none 0 0)).setCell ⟨w.heap.size + 1, 1, none⟩ (.slice none 0 0)) := fun w1 q => by
      have hz := (zero_desk' w.heap.size ((w1.setCell ⟨w.heap.size + 1, 0, none⟩ (.slice none 0 0)).setCell ⟨w.heap.size + 1, 1, none⟩ (.slice none 0 0))).same (A := none) (B := none) (n := 0) (c := 0) (m := 0) (d := 0)
      exact ⟨none, 0, none, 0, _, rfl, hz.1, hz.2, own_far (HA0.out.on q).2 (HB0.out w1 q).2 _ _, ((HX0.out.trans q).setCell' (p := ⟨w.heap.size + 1, 0, none⟩) (by show w.heap.size ≤ w.heap.size + 1; omega) _).setCell' (p := ⟨w.heap.size + 1, 1, none⟩) (by show w.heap.size ≤ w.heap.size + 1; omega) _⟩
    have HFIN := Lib.hid hfin
    obtain ⟨p0, p1⟩ := two_cells b0
    clear hfin hx0 hxw b0 b1 h1 h2 hx hlt hs0
    cases hd : deskB D L with
    | false =>
      rw [hd] at HDK
      clear hd hg
      go_enter Tryz.func6, Tryz.ntmps6
      go_wp2_with fail
      refine (HDK.out _ HX0.out).mono ?_
      rintro e w1 ⟨rfl, hx1⟩
      obtain ⟨t1, t2, t3, t4, t5, t6, -⟩ := keepB_set2 (b := 0) (HB0.out w1 hx1).2 (.slice none 0 0) (.slice none 0 0)
      clear p0 p1
      go_wp2_with fail
      refine bodyPost_ret (v := .tuple #[.agg #[.slice none 0 0, .slice none 0 0], .slice (some ⟨w.heap.size + 1 + 1, 0, none⟩) 0 0]) (by simp [results, Tryz.results6, go_sem, t5, t6]) rfl ?_
      exact HFIN.out w1 hx1
    | true =>
      rw [hd] at HDK
      have hl40 : (40 : Int) < (ts.length : Nat) := by
        have : ¬ ts.length ≤ 40 := fun e => hg ⟨hd, e⟩
        omega
      clear hd hg
      go_enter Tryz.func6, Tryz.ntmps6
      go_wp2_with fail
      refine (HDK.out _ HX0.out).mono ?_
      rintro e w1 ⟨rfl, hx1⟩
      obtain ⟨t1, t2, t3, t4, t5, t6, -⟩ := keepB_set2 (b := 0) (HB0.out w1 hx1).2 (.slice none 0 0) (.slice none 0 0)
      clear p0 p1
      go_wp2_with fail
      refine bodyPost_ret (v := .tuple #[.agg #[.slice none 0 0, .slice none 0 0], .slice (some ⟨w.heap.size + 1 + 1, 0, none⟩) 0 0]) (by simp [results, Tryz.results6, go_sem, t5, t6]) rfl ?_
      exact HFIN.out w1 hx1
  have HV : Hid (sayV D L ts = sayL ts D L) := Lib.hid (by unfold sayV; rw [if_pos hg])
  obtain ⟨hd, hl40⟩ := hg
  rw [hd] at HDK
  have HDB := Lib.hid hd
  have hl' : ¬ (40 : Int) < (ts.length : Nat) := by omega
  have HCP := Lib.hid (fun W (q : Ext w W) => l11Copy_any A B c d D L W (h1.ext q) (h2.ext q) (deskB_sm hd))
  rw [HV.out]
  obtain ⟨p0, p1⟩ := two_cells b0
  clear hd HV hx0 hxw b0 b1 h1 h2 hx hlt hs0
  go_enter Tryz.func6, Tryz.ntmps6
  go_wp2_with fail
  refine (HDK.out _ HX0.out).mono ?_
  rintro e w1 ⟨rfl, hx1⟩
  clear p0 p1
  obtain ⟨p0, p1⟩ := two_cells (HB0.out w1 hx1).1
  go_wp2_with fail
  refine (HCP.out _ (HX0.out.trans hx1)).mono ?_
  rintro e w2 ⟨v2, rfl, hO2, hx2⟩
  obtain ⟨A2, c2, B2, d2, rfl, -, -, -, -⟩ := hO2.split
  obtain ⟨w3, hw3⟩ : ∃ W, w2.alloc (.cells #[.slice A2 D.length c2, .slice B2 L.length d2] 26) = W := ⟨_, rfl⟩
  have hx23 : Ext w2 w3 := by rw [← hw3]; exact Ext.alloc _ _
  have hb3 := heap_alloc_new w2 (.cells #[.slice A2 D.length c2, .slice B2 L.length d2] 26)
  rw [hw3] at hb3
  have HS3 : Hid (SyS w w2.heap.size D L (.slice (some ⟨w.heap.size + 1 + 1, 0, none⟩) 0 0) [] w3) := Lib.hid (by
    have hx03 := hx1.trans (hx2.trans hx23)
    have z1 := hx1.size
    have z2 := hx2.size
    have z3 := hx23.size
    have z0 := HS0.out
    obtain ⟨Z, U, V, hM, hS, -⟩ := hO2.both
    refine ⟨HX0.out.trans hx03, ⟨_, _, (HB0.out w3 hx03).2⟩, by omega, ⟨A2, c2, B2, d2, w1.heap.size, w2.heap.size, hb3, by omega, z3, fun W hW => ?_, fun g hg => ?_⟩, (HA0.out.on hx03).2⟩
    · exact (hM.from_of.2.and hS.from_.2) W fun q q1 q2 => (hW q q1 q2).trans (hx23.block q2)
    · simp [Value.ownBlock] at hg
      omega)
  clear hO2 hb3 p0 p1
  go_wp2_with fail
  go_loopg [6, 8] ts.length (fun g s6 s8 wr => ∃ (i : Nat) (D' : List (List Int)) (L' : List (List (List Int))) (ws : List (List UInt8)) (v : Value), i + g = ts.length ∧ s8 = .int .i64 i ∧ v = s6 ∧ Hid (deskB D' L' = true ∧ ws.length = i ∧ (sayL ts D L).1 = (sayL (ts.drop i) D' L').1 ∧ (sayL ts D L).2.1 = (sayL (ts.drop i) D' L').2.1 ∧ (sayL ts D L).2.2 = ws ++ (sayL (ts.drop i) D' L').2.2) ∧ Hid (SyS w w2.heap.size D' L' v ws wr))
  case atStart => exact ⟨0, D, L, [], _, by omega, rfl, rfl, Lib.hid ⟨HDB.out, rfl, rfl, rfl, rfl⟩, HS3⟩
  case round =>
    clear HS3
    obtain ⟨i, D', L', ws, v, hi, rfl, rfl, HI, HS⟩ := hrel
    obtain ⟨hxw, ⟨x4, y4, hb4⟩, h27, ⟨A5, c5, B5, d5, b5, e5, hb7, hbb, hee, hF5, hgg⟩, hown⟩ := HS.out
    by_cases hin : i < ts.length
    · obtain ⟨g1, rfl⟩ : ∃ g', gk = g' + 1 := ⟨gk - 1, by omega⟩
      have hin' : (i : Int) < (ts.length : Nat) := by omega
      obtain ⟨-, -, bX, oX, hAX, hcX⟩ := HX.out wr hxw
      obtain ⟨rfl, -⟩ := hAX (by omega)
      have r1 := hcX i hin
      obtain ⟨T, hT⟩ : ∃ T, ts.getD i [] = T := ⟨_, rfl⟩
      rw [hT] at r1
      have hTl : T.length ≤ 1048576 := by rw [← hT]; exact HLT.out i hin
      have hdrop : ts.drop i = T :: ts.drop (i + 1) := by
        rw [List.drop_eq_getElem_cons hin, ← hT]
        simp [List.getD, hin]
      have hln := fun W (q : Ext wr W) => sDeskLine_any A5 B5 c5 d5 D' L' T W (hF5.now.1.ext q) (hF5.now.2.ext q) hTl
      have hnext : sayL (ts.drop i) D' L' = ((sayL (ts.drop (i + 1)) (lineD D' L' T) (lineL D' L' T)).1, (sayL (ts.drop (i + 1)) (lineD D' L' T) (lineL D' L' T)).2.1, sayT D' L' T :: (sayL (ts.drop (i + 1)) (lineD D' L' T) (lineL D' L' T)).2.2) := by rw [hdrop]; rfl
      have hdk := line_desk (T := T) HI.out.1
      obtain ⟨D6, hD6⟩ : ∃ x, lineD D' L' T = x := ⟨_, rfl⟩
      obtain ⟨L6, hL6⟩ : ∃ x, lineL D' L' T = x := ⟨_, rfl⟩
      obtain ⟨TT, hTT⟩ : ∃ x, sayT D' L' T = x := ⟨_, rfl⟩
      rw [hD6, hL6, hTT] at hln hnext
      rw [hD6, hL6] at hdk
      have HI2 : Hid (deskB D6 L6 = true ∧ (ws ++ [TT]).length = i + 1 ∧ (sayL ts D L).1 = (sayL (ts.drop (i + 1)) D6 L6).1 ∧ (sayL ts D L).2.1 = (sayL (ts.drop (i + 1)) D6 L6).2.1 ∧ (sayL ts D L).2.2 = (ws ++ [TT]) ++ (sayL (ts.drop (i + 1)) D6 L6).2.2) := Lib.hid (by
        obtain ⟨-, f2, f3, f4, f5⟩ := HI.out
        rw [hnext] at f3 f4 f5
        exact ⟨hdk, by rw [List.length_append, List.length_singleton, f2], f3, f4, by rw [f5]; simp⟩)
      have HLN := Lib.hid hln
      have HWL := Lib.hid HI.out.2.1
      have HB7 := Lib.hid (fun W (q : Ext wr W) => (q.block (heap_lt hb7)).trans hb7)
      obtain ⟨p0, p1⟩ := two_cells hb7
      have p0' : ∀ o, (wr.alloc o).cell? ⟨w2.heap.size, 0, none⟩ = some _ := fun o => (Ext.alloc wr o).cell p0
      have p1' : ∀ o, (wr.alloc o).cell? ⟨w2.heap.size, 1, none⟩ = some _ := fun o => (Ext.alloc wr o).cell p1
      unfold tx at r1
      have r1' : ∀ o, (wr.alloc o).cell? _ = some _ := fun o => (Ext.alloc wr o).cell r1
      clear hT hdrop hln hnext hdk hD6 hL6 hTT hAX hcX hb7 hb4 hF5 hgg hown HI
      go_upto_region 8 with fail
      go_cut [9, 10] (fun s9 s10 wx => ∃ m9 A' c' B' d', s9 = .pointer (some ⟨m9, 0, none⟩) ∧ s10 = tx TT ∧ Hid (Ext wr wx ∧ wx.heap[m9]? = some (.cells #[.slice A' (List.length D6) c', .slice B' (List.length L6) d'] 26 (0, 0)) ∧ From wr.heap.size wx (fun W => Mat W A' c' D6 ∧ MatS W B' d' L6)))
      case first =>
        go_wp2_with fail
        go_region_law (go_simp; go_at_call 22; (fail_if_success (have q := hX10)); refine (HLN.out _ (by repeat (first | exact Ext.refl _ | apply Ext.alloc' | apply Ext.drew'))).mono ?_; rintro e w10 ⟨A10, c10, B10, d10, rfl, hF10, hX10⟩; obtain ⟨z1, z2, z3, z4, -⟩ := keepB_set2 (b := 0) (heap_alloc_new w10 (.cells #[.slice none 0 0, .slice none 0 0] 26)) (.slice A10 D6.length c10) (.slice B10 L6.length d10); (try have x8 : w10.heap[wr.heap.size]? = some (.cells #[.slice none 0 0, .slice none 0 0] 26 (0, 0)) := (hX10.block (by simp)).trans (alloc_at (by simp))); (try (have y8 := keepB_set2 (b := 0) x8 (.slice A10 D6.length c10) (.slice B10 L6.length d10); obtain ⟨t1, t2, t3, t4, -⟩ := y8)); unfold tx)
        all_goals
          go_wp2_with fail
          go_meet
          case rel =>
            first
              | exact ⟨_, _, _, _, _, rfl, rfl, Lib.hid (from_stored (wb := wr.drew.alloc _) (by repeat (first | exact Ext.refl _ | apply Ext.alloc' | apply Ext.drew')) hX10 hF10 ⟨w10, Ext.refl _, x8, rfl⟩ (.inl ⟨Nat.le_refl _, by simp⟩))⟩
              | exact ⟨_, _, _, _, _, rfl, rfl, Lib.hid (from_stored (wb := wr.drew) (by repeat (first | exact Ext.refl _ | apply Ext.alloc' | apply Ext.drew')) hX10 hF10 ⟨_, Ext.alloc _ _, heap_alloc_new _ _, alloc_set2x _ _ _ _ _ _⟩ (.inr (Nat.le_refl _)))⟩
      case rest =>
        obtain ⟨m9, A6, c6, B6, d6, rfl, rfl, HT⟩ := hcut
        clear p0 p1 p0' p1' r1 r1'
        obtain ⟨y0, y1⟩ := two_cells HT.out.2.1
        obtain ⟨t1, t2, t3, t4, t5, t6, -⟩ := keepB_set2 (b := 0) (HB7.out wc HT.out.1) (.slice A6 D6.length c6) (.slice B6 L6.length d6)
        have hT8 := HS.out.take HT.out.1 HT.out.2.2
        obtain ⟨w8, hw8⟩ : ∃ W, (wc.setCell ⟨w2.heap.size, 0, none⟩ (.slice A6 D6.length c6)).setCell ⟨w2.heap.size, 1, none⟩ (.slice B6 L6.length d6) = W := ⟨_, rfl⟩
        rw [hw8] at hT8 t5 t6
        have HT9 := Lib.hid (hT8.ext (Ext.alloc w8 (.cells #[.string ⟨TT.toArray⟩] 9)))
        have hwn : ws.length ≤ 1000 := by have := HWL.out; omega
        have HPU := Lib.hid (app_run (P := Tryz.prog) (w0 := w) (T := 27) (E := 9) (ty := 27) Tryz.underlying27 infoS rfl (by decide) v (ws.map tx) ⟨w8.heap.size, 0, none⟩ 1 1 [.string ⟨TT.toArray⟩] rfl (one_news (cell_new0 w8 _ _) rfl) (fun u hu => by simp at hu; rw [hu]; rfl) HT9.out.acc (by simp; omega))
        clear hT8 HS hxw
        unfold tx
        go_wp2_with (at_builtin; go_loud (refine wpList_ex rfl _ _ rfl _ (.slice (some ⟨_, 0, none⟩) 1 1) rfl rfl HPU.out ?_; rintro v9 w9 hS9))
        go_roundg g1
        case measure => omega
        case rel => exact ⟨i + 1, D6, L6, ws ++ [TT], _, by omega, by go_num, rfl, HI2, Lib.hid (HT9.out.push hS9)⟩
    · have hin' : ¬ (i : Int) < (ts.length : Nat) := by omega
      obtain rfl : gk = 0 := by omega
      have hdrop : ts.drop i = [] := List.drop_of_length_le (by omega)
      have HF : Hid (sayL ts D L = (D', L', ws)) := Lib.hid (by
        obtain ⟨-, -, f3, f4, f5⟩ := HI.out
        rw [hdrop] at f3 f4 f5
        have e : sayL ts D L = ((sayL ts D L).1, (sayL ts D L).2.1, (sayL ts D L).2.2) := rfl
        rw [e, f3, f4, f5]
        simp [sayL])
      obtain ⟨p0, p1⟩ := two_cells hb7
      obtain ⟨t1, t2, t3, t4, t5, t6, -⟩ := keepB_set2 (b := 0) hb4 (.slice A5 D'.length c5) (.slice B5 L'.length d5)
      have hnow := (hF5.hi (w' := (wr.setCell ⟨w.heap.size + 1, 0, none⟩ (.slice A5 D'.length c5)).setCell ⟨w.heap.size + 1, 1, none⟩ (.slice B5 L'.length d5)) fun q q1 q2 => (Below.heap_setCell _ _ _ _ (by show q ≠ w.heap.size + 1; omega)).trans (Below.heap_setCell _ _ _ _ (by show q ≠ w.heap.size + 1; omega))).now
      have HFF := Lib.hid (And.intro hnow (And.intro (own_far hown hb4 (.slice A5 D'.length c5) (.slice B5 L'.length d5)) ((hxw.setCell' (p := ⟨w.heap.size + 1, 0, none⟩) (by show w.heap.size ≤ w.heap.size + 1; omega) (.slice A5 D'.length c5)).setCell' (p := ⟨w.heap.size + 1, 1, none⟩) (by show w.heap.size ≤ w.heap.size + 1; omega) (.slice B5 L'.length d5))))
      clear hb7 hb4 hF5 hgg hown HI HS hxw hdrop hnow
      go_wp2_with fail
      refine bodyPost_ret (v := .tuple #[.agg #[.slice A5 D'.length c5, .slice B5 L'.length d5], v]) (by simp [results, Tryz.results6, go_sem, t5, t6]) rfl ?_
      rw [HF.out]
      exact ⟨A5, c5, B5, d5, v, rfl, HFF.out.1.1, HFF.out.1.2, HFF.out.2.1, HFF.out.2.2⟩
end Go.Proofs.YtnalcgcdohlfiaaGreatDoor
