/- What is proved: impl.deskLine and impl.DeskLine return the desk behind a line, and the answer; the answer to a question is a parameter. Conditions: those of each contract; the variables of the library hold what the rows list. -/
import Derived.Test.YtnalcgcdohlfiaaGreatDoorDoS
import Derived.Test.YtnalcgcdohlfiaaGreatDoorPi
import Derived.Deep.RegionLaw
namespace Go.Proofs.YtnalcgcdohlfiaaGreatDoor
open Go.RowKit
def lnD (D : List (List Int)) (L : List (List (List Int))) : Option (Int × List Int) → List (List Int)
  | none => D
  | some p => doD D L p.1 p.2
def lnL (D : List (List Int)) (L : List (List (List Int))) : Option (Int × List Int) → List (List (List Int))
  | none => L
  | some p => doL D L p.1 p.2
def lnT (D : List (List Int)) (L : List (List (List Int))) (R : List UInt8) : Option (Int × List Int) → List UInt8
  | none => R
  | some p => if doB D L p.1 p.2 = true then [111, 107] else [110, 111]
/-- a desk of one's own and a text handed back -/
def LnR (w : World) (D : List (List Int)) (L : List (List (List Int))) (T : List UInt8) (e : Ending) (w' : World) : Prop := ∃ v, e = .returned (.tuple #[v, tx T]) ∧ OwnDk w.heap.size w' v D L ∧ Ext w w'
theorem ln_desk {D : List (List Int)} {L : List (List (List Int))} (h : deskB D L = true) : ∀ r, deskB (lnD D L r) (lnL D L r) = true
  | none => h
  | some _ => do_desk h
/-- a desk of one's own, stored into a block of the frame -/
theorem ln_fin {w w6 : World} {m : Nat} {x y : Value} {A B : Option Addr} {c d : Nat} {D : List (List Int)} {L : List (List (List Int))} {T : List UInt8} (hb : w6.heap[m]? = some (.cells #[x, y] 26 (0, 0))) (hm : w.heap.size ≤ m) (hx : Ext w w6) {b : Nat} (hb0 : w.heap.size ≤ b) (hO : OwnDk b w6 (.agg #[.slice A D.length c, .slice B L.length d]) D L) :
    LnR w D L T (.returned (.tuple #[.agg #[.slice A D.length c, .slice B L.length d], tx T])) ((w6.setCell ⟨m, 0, none⟩ (.slice A D.length c)).setCell ⟨m, 1, none⟩ (.slice B L.length d)) :=
  ⟨_, rfl, (hO.low hb0).keep (keepB_set2 hb _ _).2.2.2.2.2.2, (hx.setCell' (p := ⟨m, 0, none⟩) hm _).setCell' (p := ⟨m, 1, none⟩) hm _⟩
set_option maxRecDepth 100000 in
set_option maxHeartbeats 4000000 in
theorem deskLine_any (A B : Option Addr) (c d : Nat) (D : List (List Int)) (L : List (List (List Int))) (T R : List UInt8) (w : World) (h1 : Mat w A c D) (h2 : MatS w B d L) (hd : deskB D L = true) (hl : T.length ≤ 1048576) (hE : Env w)
    (hR : rdS T = none → ∀ W, Ext w W → Calls Tryz.prog 37 #[.slice A D.length c, .string ⟨T.toArray⟩] W fun e w' => e = .returned (tx R) ∧ Ext W w') :
    Calls Tryz.prog 20 #[.agg #[.slice A D.length c, .slice B L.length d], .string ⟨T.toArray⟩] w (LnR w (lnD D L (rdS T)) (lnL D L (rdS T)) (lnT D L R (rdS T))) := by
  have HCP := Lib.hid (fun W (q : Ext w W) => copyDesk_any A B c d D L W (h1.ext q) (h2.ext q) (deskB_sm hd))
  have HDO := Lib.hid (fun (k : Int) (X : Option Addr) (cx : Nat) (xs : List Int) W (q : Ext w W) (qx : Ints W X cx xs) => deskDo_any A B c d D L k X cx xs W (h1.ext q) (h2.ext q) qx hd)
  have hb0 := fun W (q : Ext ((w.alloc (.cells #[.slice A D.length c, .slice B L.length d] 26)).alloc (.cells #[.slice none 0 0, .slice none 0 0] 26)) W) => two_blocks q
  have HB0 := Lib.hid hb0
  have HXT := Lib.hid (show Ext w ((w.alloc (.cells #[.slice A D.length c, .slice B L.length d] 26)).alloc (.cells #[.slice none 0 0, .slice none 0 0] 26)) from (Ext.alloc _ _).alloc' _)
  have HRD := Lib.hid (fun W (q : Ext w W) => readDeed_any T W hl (hE.ext q))
  rw [rd_same] at HRD
  have HAK := Lib.hid hR
  clear hb0 h1 h2 hd hR hE
  obtain ⟨r, hr⟩ : ∃ r, rdS T = r := ⟨_, rfl⟩
  rw [hr] at HRD HAK ⊢
  clear hr
  go_enter Tryz.func20, Tryz.ntmps20
  go_wp2_with fail
  refine (HRD.out _ HXT.out).mono ?_
  rintro e w1 ⟨v1, rfl, hLf, -, hx1⟩
  obtain ⟨A1, c1, rfl, hI1⟩ := hLf.ints
  obtain ⟨b0, b1, hx, -⟩ := HB0.out w1 hx1
  have HX := Lib.hid hx
  cases r with
  | none =>
    have hak := HAK.out rfl
    have HAK2 := Lib.hid hak
    obtain ⟨p0, p1⟩ := two_cells b0
    have p0' : ∀ o, (w1.alloc o).cell? ⟨w.heap.size, 0, none⟩ = some _ := fun o => (Ext.alloc w1 o).cell p0
    have p1' : ∀ o, (w1.alloc o).cell? ⟨w.heap.size, 1, none⟩ = some _ := fun o => (Ext.alloc w1 o).cell p1
    have HB1 := Lib.hid hx1
    clear b0 b1 hx1 hx hak hLf HAK HRD
    go_wp2_with fail
    go_region_law (go_simp; first | (go_at_call 19; (fail_if_success (have q := hXc)); refine (HCP.out _ (by repeat (first | exact HX.out | apply Ext.alloc' | apply Ext.drew'))).mono ?_; rintro e wc ⟨vc, rfl, hOc, hXc⟩; obtain ⟨Ac, cc, Bc, dc, rfl, -, -, -, -⟩ := hOc.split; have hxc := ((HB1.out.alloc' _).drew').trans hXc; have y0 := (HB0.out wc hxc).1; obtain ⟨z0, z1⟩ := two_cells y0; clear y0) | (go_at_call 37; (fail_if_success (have q := hXa)); refine (HAK2.out _ (by repeat (first | exact HX.out | apply Ext.alloc' | apply Ext.drew' | refine Ext.trans ?_ hXc))).mono ?_; rintro e wa ⟨rfl, hXa⟩; have y1 := (HB0.out wa (hxc.trans hXa)).2.1; have y2 := (hxc.trans hXa); obtain ⟨t1, t2, t3, t4, t5, t6, -⟩ := keepB_set2 (b := 0) y1 (.slice Ac D.length cc) (.slice Bc L.length dc); unfold tx))
    all_goals
      go_wp2_with fail
      refine bodyPost_ret (v := .tuple #[.agg #[.slice Ac D.length cc, .slice Bc L.length dc], tx R]) (by simp [results, Tryz.results20, go_sem, t5, t6, tx]) rfl ?_
      exact ln_fin y1 (by omega) (HXT.out.trans y2) (by have := HX.out.size; simp; omega) (hOc.keep (KeepB.of_ext hXa))
  | some p =>
    obtain ⟨p0, p1⟩ := two_cells b0
    have p0' : ∀ o, (w1.alloc o).cell? ⟨w.heap.size, 0, none⟩ = some _ := fun o => (Ext.alloc w1 o).cell p0
    have p1' : ∀ o, (w1.alloc o).cell? ⟨w.heap.size, 1, none⟩ = some _ := fun o => (Ext.alloc w1 o).cell p1
    have HD1 := Lib.hid (fun W (q : Ext w1 W) => HDO.out (rk (some p)) A1 c1 (rx (some p)) W (HX.out.trans q) (hI1.ext q))
    have HB1 := Lib.hid hx1
    obtain ⟨bo, hbo⟩ : ∃ x, doB D L (rk (some p)) (rx (some p)) = x := ⟨_, rfl⟩
    obtain ⟨D2, hD2⟩ : ∃ x, doD D L (rk (some p)) (rx (some p)) = x := ⟨_, rfl⟩
    obtain ⟨L2, hL2⟩ : ∃ x, doL D L (rk (some p)) (rx (some p)) = x := ⟨_, rfl⟩
    rw [hbo, hD2, hL2] at HD1
    have HFF := Lib.hid (show lnD D L (some p) = D2 ∧ lnL D L (some p) = L2 ∧ lnT D L R (some p) = if bo = true then [111, 107] else [110, 111] from ⟨hD2, hL2, by rw [← hbo]; rfl⟩)
    have hsome : (some p).isSome = true := rfl
    clear b0 b1 hx1 hx hI1 hLf HAK HRD HDO hbo hD2 hL2
    go_wp2_with fail
    refine (HD1.out _ (Ext.alloc _ _)).mono ?_
    rintro e w2 ⟨v2, rfl, hO2, hx2⟩
    obtain ⟨A2, c2, B2, d2, rfl, -, -, -, -⟩ := hO2.split
    have y1 := (HB0.out w2 ((HB1.out.alloc' _).trans hx2)).2.1
    have y2 := ((Ext.alloc w2 (.cells #[.slice A2 D2.length c2, .slice B2 L2.length d2] 26)).block (heap_lt y1)).trans y1
    obtain ⟨t1, t2, t3, t4, t5, t6, -⟩ := keepB_set2 (b := 0) y2 (.slice A2 D2.length c2) (.slice B2 L2.length d2)
    have HY := Lib.hid (And.intro y2 (And.intro (((HB1.out.alloc' _).trans hx2).alloc' (.cells #[.slice A2 D2.length c2, .slice B2 L2.length d2] 26)) (hO2.keep (KeepB.of_ext (Ext.alloc w2 (.cells #[.slice A2 D2.length c2, .slice B2 L2.length d2] 26))))))
    clear y1 y2 hO2 hx2 p0 p1 p0' p1'
    cases bo with
    | false =>
      go_wp2_with fail
      refine bodyPost_ret (v := .tuple #[.agg #[.slice A2 D2.length c2, .slice B2 L2.length d2], tx [110, 111]]) (by simp [results, Tryz.results20, go_sem, t5, t6, tx]) rfl ?_
      rw [HFF.out.1, HFF.out.2.1, HFF.out.2.2]
      exact ln_fin HY.out.1 (by omega) (HXT.out.trans HY.out.2.1) (by have := HX.out.size; simp; omega) HY.out.2.2
    | true =>
      go_wp2_with fail
      refine bodyPost_ret (v := .tuple #[.agg #[.slice A2 D2.length c2, .slice B2 L2.length d2], tx [111, 107]]) (by simp [results, Tryz.results20, go_sem, t5, t6, tx]) rfl ?_
      rw [HFF.out.1, HFF.out.2.1, HFF.out.2.2]
      exact ln_fin HY.out.1 (by omega) (HXT.out.trans HY.out.2.1) (by have := HX.out.size; simp; omega) HY.out.2.2
/-- what DeskLine says: the empty text and no desk for what is no desk -/
def lineD (D : List (List Int)) (L : List (List (List Int))) (T : List UInt8) : List (List Int) := if deskB D L = true then lnD D L (rdS T) else []
def lineL (D : List (List Int)) (L : List (List (List Int))) (T : List UInt8) : List (List (List Int)) := if deskB D L = true then lnL D L (rdS T) else []
def lineT (D : List (List Int)) (L : List (List (List Int))) (R T : List UInt8) : List UInt8 := if deskB D L = true then lnT D L R (rdS T) else []
set_option maxRecDepth 100000 in
set_option maxHeartbeats 4000000 in
theorem iDeskLine_any (A B : Option Addr) (c d : Nat) (D : List (List Int)) (L : List (List (List Int))) (T R : List UInt8) (w : World) (h1 : Mat w A c D) (h2 : MatS w B d L) (hl : T.length ≤ 1048576) (hE : Env w)
    (hR : deskB D L = true → rdS T = none → ∀ W, Ext w W → Calls Tryz.prog 37 #[.slice A D.length c, .string ⟨T.toArray⟩] W fun e w' => e = .returned (tx R) ∧ Ext W w') :
    Calls Tryz.prog 12 #[.agg #[.slice A D.length c, .slice B L.length d], .string ⟨T.toArray⟩] w (LnR w (lineD D L T) (lineL D L T) (lineT D L R T)) := by
  have HDK := Lib.hid (fun W (q : Ext w W) => isDesk_any A B c d D L W (h1.ext q) (h2.ext q))
  have hb0 := fun W (q : Ext ((w.alloc (.cells #[.slice A D.length c, .slice B L.length d] 26)).alloc (.cells #[.slice none 0 0, .slice none 0 0] 26)) W) => two_blocks q
  have HB0 := Lib.hid hb0
  have HXT := Lib.hid (show Ext w ((w.alloc (.cells #[.slice A D.length c, .slice B L.length d] 26)).alloc (.cells #[.slice none 0 0, .slice none 0 0] 26)) from (Ext.alloc _ _).alloc' _)
  clear hb0
  cases hd : deskB D L with
  | false =>
    have HF := Lib.hid (show lineD D L T = [] ∧ lineL D L T = [] ∧ lineT D L R T = [] from ⟨by unfold lineD; rw [hd]; rfl, by unfold lineL; rw [hd]; rfl, by unfold lineT; rw [hd]; rfl⟩)
    rw [hd] at HDK
    clear hd h1 h2 hE hR
    go_enter Tryz.func12, Tryz.ntmps12
    go_wp2_with fail
    refine (HDK.out _ HXT.out).mono ?_
    rintro e w1 ⟨rfl, hx1⟩
    obtain ⟨b0, b1, hx, -⟩ := HB0.out w1 hx1
    obtain ⟨t1, t2, t3, t4, t5, t6, -⟩ := keepB_set2 (b := 0) b1 (.slice none 0 0) (.slice none 0 0)
    have HB1 := Lib.hid (And.intro b1 hx)
    clear b0 b1 hx hx1
    go_wp2
    refine bodyPost_ret (v := .tuple #[.agg #[.slice none 0 0, .slice none 0 0], tx []]) (by simp [results, Tryz.results12, go_sem, t5, t6, tx]) rfl ?_
    rw [HF.out.1, HF.out.2.1, HF.out.2.2]
    exact ⟨_, rfl, zero_desk' _ _, (HB1.out.2.setCell' (p := ⟨w.heap.size + 1, 0, none⟩) (by show w.heap.size ≤ w.heap.size + 1; omega) _).setCell' (p := ⟨w.heap.size + 1, 1, none⟩) (by show w.heap.size ≤ w.heap.size + 1; omega) _⟩
  | true =>
    have HF := Lib.hid (show lineD D L T = lnD D L (rdS T) ∧ lineL D L T = lnL D L (rdS T) ∧ lineT D L R T = lnT D L R (rdS T) from ⟨by unfold lineD; rw [hd]; rfl, by unfold lineL; rw [hd]; rfl, by unfold lineT; rw [hd]; rfl⟩)
    have HLN := Lib.hid (fun W (q : Ext w W) => deskLine_any A B c d D L T R W (h1.ext q) (h2.ext q) hd hl (hE.ext q) (fun z W' q' => hR hd z W' (q.trans q')))
    rw [hd] at HDK
    clear hd h1 h2 hE hR
    obtain ⟨D2, hD2⟩ : ∃ x, lnD D L (rdS T) = x := ⟨_, rfl⟩
    obtain ⟨L2, hL2⟩ : ∃ x, lnL D L (rdS T) = x := ⟨_, rfl⟩
    obtain ⟨T2, hT2⟩ : ∃ x, lnT D L R (rdS T) = x := ⟨_, rfl⟩
    rw [hD2, hL2, hT2] at HLN HF
    clear hD2 hL2 hT2
    go_enter Tryz.func12, Tryz.ntmps12
    go_wp2_with fail
    refine (HDK.out _ HXT.out).mono ?_
    rintro e w1 ⟨rfl, hx1⟩
    obtain ⟨b0, b1, hx, -⟩ := HB0.out w1 hx1
    obtain ⟨p0, p1⟩ := two_cells b0
    have HX := Lib.hid (And.intro hx1 hx)
    clear b0 b1 hx hx1
    go_wp2_with fail
    refine (HLN.out _ HX.out.2).mono ?_
    rintro e w2 ⟨v2, rfl, hO2, hx2⟩
    obtain ⟨A2, c2, B2, d2, rfl, -, -, -, -⟩ := hO2.split
    have y1 := (HB0.out w2 (HX.out.1.trans hx2)).2.1
    obtain ⟨t1, t2, t3, t4, t5, t6, -⟩ := keepB_set2 (b := 0) y1 (.slice A2 D2.length c2) (.slice B2 L2.length d2)
    have HY := Lib.hid (And.intro y1 (And.intro (HX.out.2.trans hx2) hO2))
    clear y1 hO2 hx2 p0 p1
    unfold tx
    go_wp2_with fail
    refine bodyPost_ret (v := .tuple #[.agg #[.slice A2 D2.length c2, .slice B2 L2.length d2], tx T2]) (by simp [results, Tryz.results12, go_sem, t5, t6, tx]) rfl ?_
    rw [HF.out.1, HF.out.2.1, HF.out.2.2]
    exact ln_fin HY.out.1 (by omega) HY.out.2.1 HX.out.2.size HY.out.2.2
end Go.Proofs.YtnalcgcdohlfiaaGreatDoor
