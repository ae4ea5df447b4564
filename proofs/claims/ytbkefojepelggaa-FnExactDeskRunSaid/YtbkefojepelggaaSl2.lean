/- What is proved: copies, marks and reads of desks with all leaves apart (toDesk, markIntSSS, heldIntSSS, markDesk, heldDesk). Conditions: those of each contract. -/
import Derived.Test.YtbkefojepelggaaSl
namespace Go.Proofs.Ytbkefojepelggaa
open Go.RowKit
/-- what a copy of a desk leaves -/
def FreshDV (w : World) (D : List (List Int)) (L : List (List (List Int))) (e : Ending) (w' : World) : Prop :=
  ∃ v Z V, e = .returned v ∧ DkV w' v D L Z V ∧ (∀ g, LD D L Z V g → w.heap.size ≤ g) ∧ Ext w w'
set_option maxHeartbeats 4000000 in
theorem toDesk_v (A B : Option Addr) (c d : Nat) (D : List (List Int)) (L : List (List (List Int))) (w : World) (h1 : Mat w A c D) (h2 : MatS w B d L) (hz : D.length + total D ≤ 1048576) (hzL : L.length ≤ 1048576) (hr : ∀ i, i < L.length → (nth L i).length + total (nth L i) ≤ 1048576) :
    Calls Try.prog 23 #[.agg #[.slice A D.length c, .slice B L.length d]] w (FreshDV w D L) := by
  have H1 := Lib.hid h1
  have H2 := Lib.hid h2
  have HR := Lib.hid hr
  have hzr : ∀ j, j < D.length → (row D j).length ≤ 1048576 := fun j hj => by have := row_le_total hj; omega
  have HZ := Lib.hid hzr
  clear h1 h2 hr hzr
  go_enter Try.func23, Try.ntmps23
  go_wp2_with fail
  refine (toIntSS_any A c D _ (H1.out.ext (by repeat (first | exact Ext.refl _ | assumption | apply Ext.drewN' | apply Ext.alloc' | refine Ext.trans ?_ (by assumption)))) (by omega) HZ.out).mono ?_
  rintro e w1 ⟨A1, c1, V, rfl, hm, hmd, hml, hx⟩
  obtain ⟨b0, b1, b2⟩ := three_blocks hx
  have hw1 : Ext w w1 := ((((Ext.refl w).alloc' _).alloc' _).alloc' _).trans hx
  have g0 := cell_cells b0 1
  have g2 := cell_cells b2 0
  have g2f := frozen_cells b2 0
  simp only [List.getElem?_toArray, List.getElem?_cons_zero, List.getElem?_cons_succ] at g0 g2
  obtain ⟨u1, hu1⟩ : ∃ u1, w1.setCell ⟨w.heap.size + 1 + 1, 0, none⟩ (.slice A1 D.length c1) = u1 := ⟨_, rfl⟩
  have bu2 : u1.heap[w.heap.size + 1 + 1]? = some (.cells #[.slice A1 D.length c1, .slice none 0 0] 26 (0, 0)) := by rw [← hu1]; exact set_0 b2
  have bu1 : u1.heap[w.heap.size + 1]? = w1.heap[w.heap.size + 1]? := by rw [← hu1]; exact Below.heap_setCell _ _ _ _ (by show w.heap.size + 1 ≠ w.heap.size + 1 + 1; omega)
  have bu0 : u1.heap[w.heap.size]? = w1.heap[w.heap.size]? := by rw [← hu1]; exact Below.heap_setCell _ _ _ _ (by show w.heap.size ≠ w.heap.size + 1 + 1; omega)
  have g0u := cell_cells (bu0.trans b0) 1
  simp only [List.getElem?_toArray, List.getElem?_cons_zero, List.getElem?_cons_succ] at g0u
  have hu : Ext w u1 := by rw [← hu1]; exact hw1.setCell' (by show w.heap.size ≤ w.heap.size + 1 + 1; omega) _
  have hk1 : KeepT w1 u1 := by rw [← hu1]; exact KeepT.set (p := ⟨w.heap.size + 1 + 1, 0, none⟩) b2 (by decide) _
  have HB := Lib.hid b1
  have HU := Lib.hid (And.intro bu2 (And.intro bu1 (And.intro hu hk1)))
  have HM := Lib.hid hm
  have HMD := Lib.hid (And.intro hmd hml)
  have HMS := Lib.hid (toIntSSS_v B d L u1 (H2.out.ext hu) hzL HR.out)
  have sw1 : w1.heap.size ≤ u1.heap.size := by rw [← hu1]; simp [World.setCell]
  clear hx b0 b1 b2 hw1 bu2 bu1 bu0 hu hk1 hm hmd hml H1 H2 HR HZ
  have sz1 : w.heap.size ≤ u1.heap.size := HU.out.2.2.1.size
  go_wp2_with fail
  refine HMS.out.mono ?_
  rintro e w3 ⟨B3, d3, VS, rfl, hS, hSc, hSl, hx3⟩
  have HSC := Lib.hid (And.intro hSc hSl)
  have c2 : w3.heap[w.heap.size + 1 + 1]? = some (.cells #[.slice A1 D.length c1, .slice none 0 0] 26 (0, 0)) := (hx3.block (heap_lt HU.out.1)).trans HU.out.1
  have c1' : w3.heap[w.heap.size + 1]? = some (.cells #[.slice none 0 0, .slice none 0 0] 26 (0, 0)) := (hx3.block (by have := heap_lt HU.out.1; omega)).trans (HU.out.2.1.trans HB.out)
  have k20 := cell_cells c2 0
  have k21 := cell_cells c2 1
  have k2f := frozen_cells c2 1
  have k10 := cell_cells c1' 0
  have k11 := cell_cells c1' 1
  have k1f := frozen_cells c1' 0
  have k1g := frozen_cells c1' 1
  simp only [List.getElem?_toArray, List.getElem?_cons_zero, List.getElem?_cons_succ] at k20 k21 k10 k11
  have HS := Lib.hid hS
  have HX3 := Lib.hid hx3
  have HC2 := Lib.hid c2
  have HC1 := Lib.hid c1'
  clear hS hSc hSl hx3 c2 c1' hu1 g0 g0u g2 g2f HMS
  go_wp2
  have e1 := set_1 (u := .slice B3 L.length d3) HC2.out
  have e2 : (w3.setCell ⟨w.heap.size + 1 + 1, 1, none⟩ (.slice B3 L.length d3)).heap[w.heap.size + 1]? = some (.cells #[.slice none 0 0, .slice none 0 0] 26 (0, 0)) := (Below.heap_setCell _ _ _ _ (by show w.heap.size + 1 ≠ w.heap.size + 1 + 1; omega)).trans HC1.out
  have kt1 : KeepT w3 (w3.setCell ⟨w.heap.size + 1 + 1, 1, none⟩ (.slice B3 L.length d3)) := KeepT.set (p := ⟨w.heap.size + 1 + 1, 1, none⟩) HC2.out (by decide) _
  have kt2 := KeepT.set (p := ⟨w.heap.size + 1, 0, none⟩) e2 (by decide) (.slice A1 D.length c1)
  have kt3 := KeepT.set (p := ⟨w.heap.size + 1, 1, none⟩) (set_0 (u := .slice A1 D.length c1) e2) (by decide) (.slice B3 L.length d3)
  have kt := (kt1.trans kt2).trans kt3
  have e3 := set_1 (u := .slice B3 L.length d3) (set_0 (u := .slice A1 D.length c1) e2)
  have f0 := cell_cells e3 0
  have f1 := cell_cells e3 1
  simp only [List.getElem?_toArray, List.getElem?_cons_zero, List.getElem?_cons_succ] at f0 f1
  refine bodyPost_ret (v := .agg #[.slice A1 D.length c1, .slice B3 L.length d3]) (by simp [results, Try.results23, go_sem, f0, f1]) rfl ⟨_, V, VS, rfl, ⟨A1, c1, B3, d3, rfl, ((HM.out.keepT HU.out.2.2.2).keepT (KeepT.of_ext HX3.out)).keepT kt, HMD.out.1, HS.out.keepT kt, HSC.out.1, fun g ⟨p, hp, hg⟩ hg2 => ?_⟩, fun g hg => ?_, ?_⟩
  · have q1 := HM.out.lt hp hg
    have q2 := HSC.out.2 g hg2
    omega
  · rcases hg with ⟨p, hp, hg⟩ | hg
    · have q1 := HMD.out.2 p hp g hg
      simp at q1
      omega
    · have q2 := HSC.out.2 g hg
      omega
  · exact (((HU.out.2.2.1.trans HX3.out).setCell' (by show w.heap.size ≤ w.heap.size + 1 + 1; omega) _).setCell' (by show w.heap.size ≤ w.heap.size + 1; omega) _).setCell' (by show w.heap.size ≤ w.heap.size + 1; omega) _
/-- all numbers of slices of rows -/
def preS (L : List (List (List Int))) : Nat → Nat
  | 0 => 0
  | i + 1 => preS L i + total (nth L i)
theorem preS_le (L : List (List (List Int))) : ∀ i j, i ≤ j → preS L i ≤ preS L j := by
  intro i j
  induction j with
  | zero => intro h; obtain rfl : i = 0 := by omega
            exact Nat.le_refl _
  | succ j ih =>
    intro h
    by_cases e : i = j + 1
    · subst e; exact Nat.le_refl _
    · have := ih (by omega)
      show preS L i ≤ preS L j + total (nth L j)
      omega
theorem szSR_tot (L : List (List (List Int))) : ∀ g i l, 0 ≤ szSR L g i l → ((preS L (i + g) : Nat) : Int) ≤ preS L i + l := by
  intro g
  induction g with
  | zero => intro i l h; have h : 0 ≤ l := h; rw [Nat.add_zero]; omega
  | succ g ih =>
    intro i l h
    unfold szSR at h
    split at h
    · omega
    · rename_i hz
      obtain ⟨h1, h2⟩ := szM_spec (D := nth L i) (l := l) (by omega)
      have := ih (i + 1) _ h
      rw [show i + (g + 1) = i + 1 + g by omega]
      have e : preS L (i + 1) = preS L i + total (nth L i) := rfl
      omega
def mixS (L : List (List (List Int))) (k : Int) (i : Nat) : List (List (List Int)) := (List.range L.length).map fun j => if j < i then markM (nth L j) (k + preS L j) else nth L j
def markS (L : List (List (List Int))) (k : Int) : List (List (List Int)) := mixS L k L.length
theorem mixS_len (L : List (List (List Int))) (k : Int) (i : Nat) : (mixS L k i).length = L.length := by simp [mixS]
theorem nth_mixS {L : List (List (List Int))} {k : Int} {i j : Nat} (h : j < L.length) : nth (mixS L k i) j = if j < i then markM (nth L j) (k + preS L j) else nth L j := by
  rw [nth_of (by rw [mixS_len]; exact h)]; simp [mixS]
theorem markM_len (D : List (List Int)) (k : Int) : (markM D k).length = D.length := mixM_len _ _ _
theorem nth_mixS_len {L : List (List (List Int))} {k : Int} {i j : Nat} (h : j < L.length) : (nth (mixS L k i) j).length = (nth L j).length := by
  rw [nth_mixS h]; split
  · exact markM_len _ _
  · rfl
theorem LS_mix {L : List (List (List Int))} {k : Int} {i : Nat} {V : Nat → Nat → Value} {g : Nat} : LS (mixS L k i) V g ↔ LS L V g := by
  unfold LS
  rw [mixS_len]
  exact exists_congr fun j => and_congr_right fun hj => by rw [nth_mixS_len hj]
theorem MatSV.mix0 {w : World} {A : Option Addr} {c : Nat} {L : List (List (List Int))} {k : Int} {V : Nat → Nat → Value} (h : MatSV w A c L V) : MatSV w A c (mixS L k 0) V := by
  have e : mixS L k 0 = L := ext_nth (mixS_len _ _ _) fun i hi => by rw [mixS_len] at hi; rw [nth_mixS hi, if_neg (by omega)]
  rw [e]; exact h
set_option maxHeartbeats 2000000 in
theorem markIntSSS_v (A : Option Addr) (c : Nat) (L : List (List (List Int))) (V : Nat → Nat → Value) (k : Int) (w : World) (h : MatSV w A c L V) (hc : Cross L V) (hk0 : 0 ≤ k) (hk1 : k ≤ 800000000000) (hz : preS L L.length ≤ 10000000) (hn : ∀ i, i < L.length → (nth L i).length ≤ 10000000) :
    Calls Try.prog 59 #[.slice A L.length c, .int .i64 k] w fun e w' => e = .returned (.int .i64 (k + preS L L.length)) ∧ MatSV w' A c (markS L k) V ∧ Only (LS L V) w w' := by
  obtain ⟨h1, h2, b, o, hA, _⟩ := id h
  unfold maxLen at h2
  have HCR := Lib.hid hc
  have HNN := Lib.hid hn
  have hA' : 0 < L.length → A = some ⟨b, o, none⟩ := fun h0 => (hA h0).1
  clear hc hA hn
  go_enter Try.func59, Try.ntmps59
  go_wp2
  go_loopg [1, 5] L.length (fun g s1 s5 wr => ∃ (i : Nat) (s : Int), i + g = L.length ∧ s5 = .int .i64 i ∧ s1 = .int .i64 s ∧ 0 ≤ s ∧ s ≤ 900000000000 ∧ Hid (s = k + preS L i ∧ Only (LS L V) w wr ∧ MatSV wr A c (mixS L k i) V))
  case atStart => exact ⟨0, _, by omega, rfl, rfl, by omega, by omega, Lib.hid ⟨by simp [preS], Only.refl _ _, h.mix0⟩⟩
  case round =>
    obtain ⟨i, s, hi, rfl, rfl, hs0, hs1, HW⟩ := hrel
    by_cases hin : i < L.length
    · obtain ⟨g', rfl⟩ : ∃ g', gk = g' + 1 := ⟨gk - 1, by omega⟩
      have hin' : (i : Int) < (L.length : Nat) := by omega
      obtain rfl := hA' (by omega)
      have hp1 := preS_le L (i + 1) L.length (by omega)
      have hps : preS L (i + 1) = preS L i + total (nth L i) := rfl
      obtain ⟨Ar, cr, c1, HL⟩ : ∃ Ar cr, wr.cell? ⟨b, o + i, none⟩ = some (.slice Ar (nth L i).length cr) ∧ Hid (MatL wr Ar cr (nth L i) (V i) ∧ Dis (nth L i).length (V i)) := by
        obtain ⟨_, _, b', o', hA2, hc⟩ := HW.out.2.2
        have hAe := (hA2 (by rw [mixS_len]; omega)).1
        injection hAe with hAe; injection hAe with e1 e2
        subst e1; subst e2
        obtain ⟨Ar, cr, e, hl, hd⟩ := hc i (by rw [mixS_len]; exact hin)
        rw [nth_mixS hin, if_neg (by omega)] at e hl hd
        exact ⟨Ar, cr, e, Lib.hid ⟨hl, hd⟩⟩
      have hsE := HW.out.1
      have HC := Lib.hid (markIntSS_any Ar cr (nth L i) (V i) s wr HL.out.1 HL.out.2 hs0 hs1 (HNN.out i hin) (by omega))
      have HP := Lib.hid (And.intro hps (show s + (total (nth L i) : Nat) ≤ 900000000000 by omega))
      clear hA' hsE hps hp1
      go_wp2_with (go_at_call 58; refine HC.out.mono ?_; rintro e w1 ⟨rfl, hl1, ho1⟩; have HV := Lib.hid (And.intro hl1 ho1); clear hl1 ho1)
      go_roundg g'
      case measure => omega
      case rel =>
        obtain ⟨es, ho, hm⟩ := HW.out
        obtain ⟨hps, hp1⟩ := HP.out
        obtain ⟨hl1, ho1⟩ := HV.out
        have hS : ∀ g, LV (nth L i).length (V i) g → LS L V g := fun g hg => ⟨i, hin, hg⟩
        have hI := fun g (hg : LV (nth L i).length (V i) g) => HL.out.1.isI hg
        refine ⟨i + 1, s + total (nth L i), by omega, by go_num, by first | rfl | go_num, by omega, by omega, Lib.hid ⟨by omega, ho.trans (ho1.mono hS), ?_⟩⟩
        obtain ⟨m1, m2, b', o', hA2, hc⟩ := hm
        have hbne : ¬ LV (nth L i).length (V i) b' := fun hg => by
          obtain ⟨_, cs, fz, hbb⟩ := hA2 (by rw [mixS_len]; omega)
          obtain ⟨cs', hb'⟩ := hI b' hg
          rw [hbb] at hb'
          injection hb' with hb'
          injection hb' with _ ht
          exact absurd ht (by decide)
        rw [mixS_len] at m1 hA2 hc
        have hAe := (hA2 (by omega)).1
        injection hAe with hAe; injection hAe with e1 e2
        subst e1; subst e2
        refine ⟨by rw [mixS_len]; exact m1, m2, b, o, fun h0 => ?_, fun j hj => ?_⟩
        · obtain ⟨e, cs, fz, hbb⟩ := hA2 (by omega)
          exact ⟨e, cs, fz, (ho1.2.2.2.2 b hbne).trans hbb⟩
        · rw [mixS_len] at hj
          obtain ⟨Aj, cj, e, hl, hd⟩ := hc j hj
          rw [nth_mixS hj] at e hl hd ⊢
          by_cases eji : j = i
          · subst eji
            rw [if_neg (by omega)] at e hl hd
            rw [if_pos (by omega), ← es]
            rw [c1] at e
            injection e with e
            injection e with e1 _ e3
            subst e1 e3
            exact ⟨Ar, cr, by rw [markM_len, World.cell?_of_block (w := wr) (ho1.2.2.2.2 b hbne)]; exact c1, hl1, by rw [markM_len]; exact hd⟩
          · have hne : ∀ g, LV (nth L j).length (V j) g → ¬ LV (nth L i).length (V i) g := fun g ⟨p, hp, hg⟩ ⟨q, hq, hg2⟩ => HCR.out j i hj hin eji p hp q hq g hg hg2
            by_cases hlt : j < i
            · rw [if_pos hlt] at e hl hd
              rw [if_pos (by omega)]
              exact ⟨Aj, cj, by rw [World.cell?_of_block (w := wr) (ho1.2.2.2.2 b hbne)]; exact e, hl.only ho1 (fun g hg => hne g (by rw [markM_len] at hg; exact hg)) hI, hd⟩
            · rw [if_neg hlt] at e hl hd
              rw [if_neg (by omega)]
              exact ⟨Aj, cj, by rw [World.cell?_of_block (w := wr) (ho1.2.2.2.2 b hbne)]; exact e, hl.only ho1 hne hI, hd⟩
    · have hin' : ¬ (i : Int) < (L.length : Nat) := by omega
      clear hA'
      go_wp2
      go_ret
      have e : i = L.length := by omega
      subst e
      obtain ⟨es, ho, hm⟩ := HW.out
      exact ⟨ret_int (by rw [es]), hm, ho⟩
set_option maxHeartbeats 2000000 in
theorem heldIntSSS_v (A : Option Addr) (c : Nat) (L : List (List (List Int))) (V : Nat → Nat → Value) (k : Int) (w : World) (h : MatSV w A c (markS L k) V) (hk0 : 0 ≤ k) (hk1 : k ≤ 800000000000) (hz : preS L L.length ≤ 10000000) (hn : ∀ i, i < L.length → (nth L i).length ≤ 10000000) :
    Calls Try.prog 62 #[.slice A L.length c, .int .i64 k] w fun e w' => e = .returned (.int .i64 (k + preS L L.length)) ∧ ∃ m, w' = w.drewN m := by
  obtain ⟨h1, h2, b, o, hA, hc⟩ := id h
  unfold maxLen at h2
  unfold markS at h1 hA hc
  rw [mixS_len] at h1 hA hc
  have HNN := Lib.hid hn
  have hA' : 0 < L.length → A = some ⟨b, o, none⟩ := fun h0 => (hA h0).1
  have HC := Lib.hid hc
  clear hc hA hn
  go_enter Try.func62, Try.ntmps62
  go_wp2
  go_loopg [1, 5] L.length (fun g s1 s5 wr => ∃ (i : Nat) (s : Int) (m : Nat), i + g = L.length ∧ s5 = .int .i64 i ∧ s1 = .int .i64 s ∧ 0 ≤ s ∧ s ≤ 900000000000 ∧ wr = w.drewN m ∧ Hid (s = k + preS L i))
  case atStart => exact ⟨0, _, 0, by omega, rfl, rfl, by omega, by omega, rfl, Lib.hid (by simp [preS])⟩
  case round =>
    obtain ⟨i, s, m, hi, rfl, rfl, hs0, hs1, rfl, HW⟩ := hrel
    by_cases hin : i < L.length
    · obtain ⟨g', rfl⟩ : ∃ g', gk = g' + 1 := ⟨gk - 1, by omega⟩
      have hin' : (i : Int) < (L.length : Nat) := by omega
      obtain rfl := hA' (by omega)
      have hp1 := preS_le L (i + 1) L.length (by omega)
      have hps : preS L (i + 1) = preS L i + total (nth L i) := rfl
      obtain ⟨Ar, cr, c1, hl, -⟩ := HC.out i hin
      rw [nth_mixS_len hin] at c1
      rw [nth_mixS hin, if_pos hin, ← HW.out] at hl
      have hsE := HW.out
      have HCC := Lib.hid (heldmkM_any Ar cr (nth L i) (V i) s w hl hs0 hs1 (HNN.out i hin) (by omega))
      have hneg : ¬ s + (total (nth L i) : Nat) < 0 := by omega
      have HCD := Lib.hid (fun m => heldmkM_any Ar cr (nth L i) (V i) s (w.drewN m) (hl.ext (Ext.drewN _ _)) hs0 hs1 (HNN.out i hin) (by omega))
      have HP := Lib.hid (And.intro hps (show s + (total (nth L i) : Nat) ≤ 900000000000 by omega))
      clear hA' hl HCC hsE hps hp1
      go_wp2_with (go_at_call 61; refine (HCD.out _).mono ?_; rintro e w1 ⟨rfl, mz, rfl⟩)
      go_roundg g'
      case measure => omega
      case rel => exact ⟨i + 1, s + total (nth L i), _, by omega, by go_num, by first | rfl | go_num, by omega, HP.out.2, by first | rfl | exact drewN_add _ _ _, Lib.hid (by have := HW.out; have := HP.out.1; omega)⟩
    · have hin' : ¬ (i : Int) < (L.length : Nat) := by omega
      clear hA'
      go_wp2
      go_ret
      have e : i = L.length := by omega
      subst e
      exact ⟨ret_int (by rw [HW.out]), _, rfl⟩
end Go.Proofs.Ytbkefojepelggaa
