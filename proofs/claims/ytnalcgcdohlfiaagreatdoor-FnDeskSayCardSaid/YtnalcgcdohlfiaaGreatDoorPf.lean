/- What is proved: contracts and plain laws for what the later texts lean on (La, Spx, Lb, Lc, Lm, Ln2, Lf, Lt). Conditions: those of each. -/
import Derived.Test.YtnalcgcdohlfiaaGreatDoorPg
import Derived.Test.YtnalcgcdohlfiaaGreatDoorPk
import Derived.Deep.RegionLaw
import Derived.Deep.RegionHeld3
import Derived.Test.YtnalcgcdohlfiaaGreatDoorLn
import Derived.Test.YtnalcgcdohlfiaaGreatDoorLs
namespace Go.Proofs.YtnalcgcdohlfiaaGreatDoor
open Go.RowKit
theorem lKeep {W w w' : World} {a b : Addr} {x y : Value} (h : w.cell? a = some x ∧ w.cell? b = some y ∧ Ext W w) (k : Ext w w') : w'.cell? a = some x ∧ w'.cell? b = some y ∧ Ext W w' :=
  ⟨k.cell h.1, k.cell h.2.1, h.2.2.trans k⟩
/-- the answer to two words -/
def l11V (D : List (List Int)) (P Q : List UInt8) : List UInt8 := if P = askFar ∨ P = askBtw then ansP D P (pairS D Q) else askWhat
theorem btwV_in {D : List (List Int)} {a b : Int} (hs : spB D = true) (h : inP D a ∧ inP D b) : btwV D a b = selN (btwB D a.toNat b.toNat) D.length := by
  unfold btwV pointB
  refine if_pos ⟨?_, ?_⟩
  · rw [hs]; exact decide_eq_true h.1
  · rw [hs]; exact decide_eq_true h.2
theorem btwV_out {D : List (List Int)} {a b : Int} (hs : spB D = true) (h : ¬ (inP D a ∧ inP D b)) : btwV D a b = [] := by
  unfold btwV pointB
  refine if_neg fun q => h ?_
  rw [hs] at q
  exact ⟨of_decide_eq_true q.1, of_decide_eq_true q.2⟩
theorem ne_bb {T P : List UInt8} (h : T ≠ P) : (T == P) = false := beq_eq_false_iff_ne.2 h
set_option maxRecDepth 100000 in
set_option maxHeartbeats 4000000 in
theorem l11Ask_other (A : Option Addr) (cp : Nat) (D : List (List Int)) (Aw : Option Addr) (cw : Nat) (P Q : List UInt8) (w : World) (hT : Txts w Aw cw [P, Q]) (hl : Q.length ≤ 1048576) (hF : P ≠ askFar) (hB : P ≠ askBtw) :
    Calls Tryz.prog 48 #[.slice A D.length cp, .slice Aw 2 cw] w fun e w' => e = .returned (tx (l11V D P Q)) ∧ Ext w w' := by
  have HE := Lib.hid (show l11V D P Q = askWhat from if_neg (fun z => z.elim hF hB))
  have f1 := ne_bb hF
  have f2 := ne_bb hB
  unfold askFar at f1
  unfold askBtw at f2
  obtain ⟨hc1, hc2, b, o, hA, hc⟩ := hT
  obtain ⟨rfl, -⟩ := hA (by simp)
  unfold maxLen at hc2
  have k0 : w.cell? ⟨b, o, none⟩ = some (tx P) := hc 0 (by simp)
  have k1 : w.cell? ⟨b, o + 1, none⟩ = some (tx Q) := hc 1 (by simp)
  have HK := Lib.hid k0
  have HCU := Lib.hid (l1Cut_z Q 44 44 rfl w hl)
  unfold tx at k0 k1
  clear hF hB hA hc
  go_enter Tryz.func48, Tryz.ntmps48
  go_wp2_with fail
  refine HCU.out.mono ?_
  rintro e w1 ⟨A1, c1, rfl, -, -, hx1⟩
  have k2 := hx1.cell HK.out
  have HX := Lib.hid hx1
  unfold tx at k2
  clear hx1 k0 k1
  go_wp2_with fail
  go_ret
  exact ⟨by rw [HE.out]; rfl, HX.out⟩
set_option maxRecDepth 100000 in
set_option maxHeartbeats 4000000 in
theorem l11Ask_far (A : Option Addr) (cp : Nat) (D : List (List Int)) (Aw : Option Addr) (cw : Nat) (Q : List UInt8) (w : World) (h : Mat w A cp D) (hs : spB D = true) (hT : Txts w Aw cw [askFar, Q]) (hl : Q.length ≤ 1048576) :
    Calls Tryz.prog 48 #[.slice A D.length cp, .slice Aw 2 cw] w fun e w' => e = .returned (tx (ansP D askFar (pairS D Q))) ∧ Ext w w' := by
  obtain ⟨⟨n1, n6⟩, hsq, hcells⟩ := farB_parts (spB_far hs)
  have hcm := h.2.1
  have hlc := h.1
  unfold maxLen at hcm
  have HBT := Lib.hid (fun W (q : Ext w W) a b => sBetweenOf_any A cp D a b W (h.ext q))
  have HM := Lib.hid h
  obtain ⟨hc1, hc2, b, o, hA, hc⟩ := hT
  obtain ⟨rfl, -⟩ := hA (by simp)
  unfold maxLen at hc2
  have HK0 := Lib.hid (show w.cell? ⟨b, o, none⟩ = some (tx askFar) from hc 0 (by simp))
  have HK1 := Lib.hid (show w.cell? ⟨b, o + 1, none⟩ = some (tx Q) from hc 1 (by simp))
  have HCU := Lib.hid (l1Cut_z Q 44 44 rfl w hl)
  have HPL := Lib.hid (piece_len 44 Q)
  have HPS := Lib.hid (show pairS D Q = pairY D (pieces 44 Q) from rfl)
  have HSP := Lib.hid hs
  obtain ⟨ps, hps⟩ : ∃ p, pieces 44 Q = p := ⟨_, rfl⟩
  rw [hps] at HCU HPL HPS
  have k1 := HK1.out
  unfold tx at k1
  have f1 : (askFar == askFar) = true := rfl
  clear h hs hA hc hps
  go_enter Tryz.func48, Tryz.ntmps48
  go_wp2_with fail
  refine HCU.out.mono ?_
  rintro e w1 ⟨A1, c1, rfl, hT1, hN1, hx1⟩
  have k0 := hx1.cell HK0.out
  have HX := Lib.hid hx1
  have HT1 := Lib.hid hT1
  have hd1 := hT1.1
  have hd2 := hT1.2.1
  unfold maxLen at hd2
  unfold tx askFar at k0
  clear hx1 k1 hT1
  go_wp2_with fail
  by_cases h2 : ps.length = 2
  · obtain ⟨p, q, rfl⟩ : ∃ p q, ps = [p, q] := by
      match ps, h2 with
      | [p, q], _ => exact ⟨p, q, rfl⟩
    obtain ⟨-, -, b1, o1, hA1, hcc⟩ := HT1.out
    obtain ⟨rfl, -⟩ := hA1 (by simp)
    have HC0 := Lib.hid (show w1.cell? ⟨b1, o1, none⟩ = some (tx p) from hcc 0 (by simp))
    have HC1 := Lib.hid (show w1.cell? ⟨b1, o1 + 1, none⟩ = some (tx q) from hcc 1 (by simp))
    have hp := HPL.out p List.mem_cons_self
    have hq := HPL.out q (List.mem_cons_of_mem _ List.mem_cons_self)
    have HPY : Hid (pairS D Q = if inP D (dgt p) ∧ inP D (dgt q) then some ((dgt p).toNat, (dgt q).toNat) else none) := Lib.hid (by
      rw [HPS.out]
      show (if ([p, q] : List (List UInt8)).length = 2 ∧ inP D (dgt p) ∧ inP D (dgt q) then _ else none) = _
      by_cases z : inP D (dgt p) ∧ inP D (dgt q)
      · rw [if_pos z, if_pos ⟨rfl, z⟩]; rfl
      · rw [if_neg z, if_neg (fun y => z y.2)])
    have hp6 : p.length ≤ 1048576 := by omega
    have hq6 : q.length ≤ 1048576 := by omega
    have HBA := Lib.hid (fun W (z : Ext w W) => HBT.out W z (dgt p) (dgt q))
    clear hA1 hcc h2 hN1 HPL HPS HT1 hp hq HBT
    have y0 := HC0.out
    have y1 := HC1.out
    unfold tx at y0 y1
    have hs0 := And.intro y0 (And.intro y1 (Ext.refl w1))
    have hs1 := lKeep hs0 (Ext.drewN w1 1)
    by_cases hin : inP D (dgt p) ∧ inP D (dgt q)
    · have hbv := btwV_in HSP.out hin
      have hne := btw_ne (b := (dgt q).toNat) HSP.out (show (dgt p).toNat < D.length by obtain ⟨⟨g0, g1⟩, -⟩ := hin; omega)
      have hsl := selN_len (btwB D (dgt p).toNat (dgt q).toNat) D.length
      have hsx := selN_ix (btwB D (dgt p).toNat (dgt q).toNat) D.length
      rw [← hbv] at hne hsl hsx
      have HANS : Hid (ansP D askFar (pairS D Q) = ansP D askFar (some ((dgt p).toNat, (dgt q).toNat))) := Lib.hid (by rw [HPY.out, if_pos hin])
      have HBV := Lib.hid hbv
      have hz0 : (((btwV D (dgt p) (dgt q)).length : Int) == 0) = false := beq_eq_false_iff_ne.2 (by
        have : (btwV D (dgt p) (dgt q)).length ≠ 0 := fun e => hne (List.eq_nil_of_length_eq_zero e)
        omega)
      have HIN := Lib.hid hin
      have HSL := Lib.hid (And.intro hsl hsx)
      clear hbv hne HPY hin hsl hsx y0 y1
      go_region_held3 (fun w' => w'.cell? ⟨b1, o1, none⟩ = some (.string ⟨p.toArray⟩) ∧ w'.cell? ⟨b1, o1 + 1, none⟩ = some (.string ⟨q.toArray⟩) ∧ Ext w1 w') (first | exact hs1 | exact lKeep (by assumption) (by assumption) | assumption)
        (first
          | (go_at_call 83; refine (HBA.out _ (HX.out.trans (And.right (And.right (by assumption))))).mono ?_; rintro e w5 ⟨v5, rfl, hL5, -, hx5⟩; obtain ⟨A5, c5, rfl, -⟩ := hL5.ints; clear hL5)
          | (go_at_call 75; refine (l1Digits_any _ _ (by first | exact hp6 | exact hq6)).mono ?_; rintro e w3 ⟨rfl, hx3⟩))
      have hsz : w5.cell? ⟨b1, o1, none⟩ = some (.string ⟨p.toArray⟩) ∧ w5.cell? ⟨b1, o1 + 1, none⟩ = some (.string ⟨q.toArray⟩) ∧ Ext w1 w5 := by assumption
      have k0' := (HX.out.trans hsz.2.2).cell HK0.out
      unfold tx askFar at k0'
      clear hz0 hs0 hs1
      have hxD : (dgt p).toNat < D.length := by obtain ⟨⟨g0, g1⟩, -⟩ := HIN.out; omega
      have hyD : (dgt q).toNat < D.length := by obtain ⟨-, g0, g1⟩ := HIN.out; omega
      obtain ⟨x, hx⟩ : ∃ n : Nat, dgt p = n := ⟨(dgt p).toNat, by obtain ⟨⟨g0, g1⟩, -⟩ := HIN.out; omega⟩
      obtain ⟨y, hy⟩ : ∃ n : Nat, dgt q = n := ⟨(dgt q).toNat, by obtain ⟨-, g0, g1⟩ := HIN.out; omega⟩
      rw [hx, Int.toNat_natCast] at hxD
      rw [hy, Int.toNat_natCast] at hyD
      have HZ := Lib.hid hsz
      have hwz : Ext w w5 := HX.out.trans hsz.2.2
      obtain ⟨bk, o5, rc, rb, ro, hA5, hrow, -, hcell, -⟩ := (HM.out.ext hwz).square hsq
      obtain rfl := hA5 (by omega)
      have hb9 := hcells x hxD y hyD
      have HNU := Lib.hid (fun W => l1Number_z (at2 D x y) (by omega) W)
      have HAV : Hid (ansP D askFar (pairS D Q) = dg (at2 D x y)) := Lib.hid (by rw [HANS.out, hx, hy, Int.toNat_natCast, Int.toNat_natCast]; rfl)
      have HR1 := Lib.hid (hrow x hxD)
      have HC9 := Lib.hid (hcell x hxD y hyD)
      have HW := Lib.hid hwz
      have hxD' : (x : Int) < (D.length : Nat) := by omega
      have hyD' : (y : Int) < (D.length : Nat) := by omega
      obtain ⟨V, hV⟩ : ∃ V, at2 D x y = V := ⟨_, rfl⟩
      rw [hV] at HC9 HNU HAV
      have z0 : ∀ t : EW w5, t.to.cell? ⟨b1, o1, none⟩ = some (.string ⟨p.toArray⟩) := fun t => t.ok.cell HZ.out.1
      have z1 : ∀ t : EW w5, t.to.cell? ⟨b1, o1 + 1, none⟩ = some (.string ⟨q.toArray⟩) := fun t => t.ok.cell HZ.out.2.1
      have z2 : ∀ t : EW w5, t.to.cell? _ = _ := fun t => t.ok.cell HR1.out
      have z3 : ∀ t : EW w5, t.to.cell? _ = _ := fun t => t.ok.cell HC9.out
      have HDP := Lib.hid (fun W => l1Digits_any p W hp6)
      have HDQ := Lib.hid (fun W => l1Digits_any q W hq6)
      rw [hx] at HDP
      rw [hy] at HDQ
      have HDPQ := Lib.hid (fun (L : List UInt8) W (h : L.length ≤ 1048576) => l1Digits_any L W h)
      unfold tx at HNU
      clear hA5 hrow hcell hb9 hV hwz HIN HSL HANS HBV hsz
      go_wp2_with fail
      refine wp_region_quiet_ext (by kernel_rfl) (by kernel_rfl) ?_
      repeat (go_big_quiet_step (((first | (go_at_call 29; exact Calls.ew_of (HNU.out _)) | (go_at_call 75; exact Calls.ew_of (l1Digits_any _ _ (by first | exact hp6 | exact hq6)))))))
      refine wpQuiet_nil ?_
      intro _ hw'
      obtain ⟨⟨wq, hq⟩, hw''⟩ := hw'
      subst hw''
      go_wp2_with fail
      go_ret
      exact ⟨by rw [HAV.out]; rfl, HW.out.trans hq⟩
    · have hbv := btwV_out HSP.out hin
      have HANS : Hid (ansP D askFar (pairS D Q) = askNone) := Lib.hid (by rw [HPY.out, if_neg hin]; rfl)
      have hz0 : (((btwV D (dgt p) (dgt q)).length : Int) == 0) = true := by rw [hbv]; rfl
      clear hbv HPY hin y0 y1
      go_region_held3 (fun w' => w'.cell? ⟨b1, o1, none⟩ = some (.string ⟨p.toArray⟩) ∧ w'.cell? ⟨b1, o1 + 1, none⟩ = some (.string ⟨q.toArray⟩) ∧ Ext w1 w') (first | exact hs1 | exact lKeep (by assumption) (by assumption) | assumption)
        (first
          | (go_at_call 83; refine (HBA.out _ (HX.out.trans (And.right (And.right (by assumption))))).mono ?_; rintro e w5 ⟨v5, rfl, hL5, -, hx5⟩; obtain ⟨A5, c5, rfl, -⟩ := hL5.ints; clear hL5)
          | (go_at_call 75; refine (l1Digits_any _ _ (by first | exact hp6 | exact hq6)).mono ?_; rintro e w3 ⟨rfl, hx3⟩))
      go_wp2_with fail
      go_ret
      exact ⟨by rw [HANS.out]; rfl, HX.out.trans (And.right (And.right (by assumption)))⟩
  · have h2' : ((ps.length : Int) == 2) = false := beq_eq_false_iff_ne.2 (by omega)
    have h2n : ((ps.length : Int) != 2) = true := by rw [bne, h2']; rfl
    have HANS : Hid (ansP D askFar (pairS D Q) = askNone) := Lib.hid (by
      rw [HPS.out]
      show ansP D askFar (if ps.length = 2 ∧ _ then _ else none) = _
      rw [if_neg (fun z => h2 z.1)]; rfl)
    clear h2 HPS HBT HT1 HPL
    go_quiet (fail)
    go_wp2_with fail
    go_ret
    exact ⟨by rw [HANS.out]; rfl, HX.out.drewN' _⟩
set_option maxRecDepth 100000 in
set_option maxHeartbeats 4000000 in
theorem l11Ask_btw (A : Option Addr) (cp : Nat) (D : List (List Int)) (Aw : Option Addr) (cw : Nat) (Q : List UInt8) (w : World) (h : Mat w A cp D) (hs : spB D = true) (hT : Txts w Aw cw [askBtw, Q]) (hl : Q.length ≤ 1048576) :
    Calls Tryz.prog 48 #[.slice A D.length cp, .slice Aw 2 cw] w fun e w' => e = .returned (tx (ansP D askBtw (pairS D Q))) ∧ Ext w w' := by
  obtain ⟨⟨n1, n6⟩, hsq, hcells⟩ := farB_parts (spB_far hs)
  have hcm := h.2.1
  have hlc := h.1
  unfold maxLen at hcm
  have HBT := Lib.hid (fun W (q : Ext w W) a b => sBetweenOf_any A cp D a b W (h.ext q))
  have HM := Lib.hid h
  obtain ⟨hc1, hc2, b, o, hA, hc⟩ := hT
  obtain ⟨rfl, -⟩ := hA (by simp)
  unfold maxLen at hc2
  have HK0 := Lib.hid (show w.cell? ⟨b, o, none⟩ = some (tx askBtw) from hc 0 (by simp))
  have HK1 := Lib.hid (show w.cell? ⟨b, o + 1, none⟩ = some (tx Q) from hc 1 (by simp))
  have HCU := Lib.hid (l1Cut_z Q 44 44 rfl w hl)
  have HPL := Lib.hid (piece_len 44 Q)
  have HPS := Lib.hid (show pairS D Q = pairY D (pieces 44 Q) from rfl)
  have HSP := Lib.hid hs
  obtain ⟨ps, hps⟩ : ∃ p, pieces 44 Q = p := ⟨_, rfl⟩
  rw [hps] at HCU HPL HPS
  have k1 := HK1.out
  unfold tx at k1
  have f1 : (askFar == askFar) = true := rfl
  clear h hs hA hc hps
  go_enter Tryz.func48, Tryz.ntmps48
  go_wp2_with fail
  refine HCU.out.mono ?_
  rintro e w1 ⟨A1, c1, rfl, hT1, hN1, hx1⟩
  have k0 := hx1.cell HK0.out
  have HX := Lib.hid hx1
  have HT1 := Lib.hid hT1
  have hd1 := hT1.1
  have hd2 := hT1.2.1
  unfold maxLen at hd2
  unfold tx askBtw at k0
  clear hx1 k1 hT1
  go_wp2_with fail
  by_cases h2 : ps.length = 2
  · obtain ⟨p, q, rfl⟩ : ∃ p q, ps = [p, q] := by
      match ps, h2 with
      | [p, q], _ => exact ⟨p, q, rfl⟩
    obtain ⟨-, -, b1, o1, hA1, hcc⟩ := HT1.out
    obtain ⟨rfl, -⟩ := hA1 (by simp)
    have HC0 := Lib.hid (show w1.cell? ⟨b1, o1, none⟩ = some (tx p) from hcc 0 (by simp))
    have HC1 := Lib.hid (show w1.cell? ⟨b1, o1 + 1, none⟩ = some (tx q) from hcc 1 (by simp))
    have hp := HPL.out p List.mem_cons_self
    have hq := HPL.out q (List.mem_cons_of_mem _ List.mem_cons_self)
    have HPY : Hid (pairS D Q = if inP D (dgt p) ∧ inP D (dgt q) then some ((dgt p).toNat, (dgt q).toNat) else none) := Lib.hid (by
      rw [HPS.out]
      show (if ([p, q] : List (List UInt8)).length = 2 ∧ inP D (dgt p) ∧ inP D (dgt q) then _ else none) = _
      by_cases z : inP D (dgt p) ∧ inP D (dgt q)
      · rw [if_pos z, if_pos ⟨rfl, z⟩]; rfl
      · rw [if_neg z, if_neg (fun y => z y.2)])
    have hp6 : p.length ≤ 1048576 := by omega
    have hq6 : q.length ≤ 1048576 := by omega
    have HBA := Lib.hid (fun W (z : Ext w W) => HBT.out W z (dgt p) (dgt q))
    clear hA1 hcc h2 hN1 HPL HPS HT1 hp hq HBT
    have y0 := HC0.out
    have y1 := HC1.out
    unfold tx at y0 y1
    have hs0 := And.intro y0 (And.intro y1 (Ext.refl w1))
    have hs1 := lKeep hs0 (Ext.drewN w1 1)
    by_cases hin : inP D (dgt p) ∧ inP D (dgt q)
    · have hbv := btwV_in HSP.out hin
      have hne := btw_ne (b := (dgt q).toNat) HSP.out (show (dgt p).toNat < D.length by obtain ⟨⟨g0, g1⟩, -⟩ := hin; omega)
      have hsl := selN_len (btwB D (dgt p).toNat (dgt q).toNat) D.length
      have hsx := selN_ix (btwB D (dgt p).toNat (dgt q).toNat) D.length
      rw [← hbv] at hne hsl hsx
      have HANS : Hid (ansP D askBtw (pairS D Q) = ansP D askBtw (some ((dgt p).toNat, (dgt q).toNat))) := Lib.hid (by rw [HPY.out, if_pos hin])
      have HBV := Lib.hid hbv
      have hz0 : (((btwV D (dgt p) (dgt q)).length : Int) == 0) = false := beq_eq_false_iff_ne.2 (by
        have : (btwV D (dgt p) (dgt q)).length ≠ 0 := fun e => hne (List.eq_nil_of_length_eq_zero e)
        omega)
      have HIN := Lib.hid hin
      have HSL := Lib.hid (And.intro hsl hsx)
      clear hbv hne HPY hin hsl hsx y0 y1
      go_region_held3 (fun w' => w'.cell? ⟨b1, o1, none⟩ = some (.string ⟨p.toArray⟩) ∧ w'.cell? ⟨b1, o1 + 1, none⟩ = some (.string ⟨q.toArray⟩) ∧ Ext w1 w') (first | exact hs1 | exact lKeep (by assumption) (by assumption) | assumption)
        (first
          | (go_at_call 83; refine (HBA.out _ (HX.out.trans (And.right (And.right (by assumption))))).mono ?_; rintro e w5 ⟨v5, rfl, hL5, -, hx5⟩; obtain ⟨A5, c5, rfl, -⟩ := hL5.ints; clear hL5)
          | (go_at_call 75; refine (l1Digits_any _ _ (by first | exact hp6 | exact hq6)).mono ?_; rintro e w3 ⟨rfl, hx3⟩))
      have hsz : w5.cell? ⟨b1, o1, none⟩ = some (.string ⟨p.toArray⟩) ∧ w5.cell? ⟨b1, o1 + 1, none⟩ = some (.string ⟨q.toArray⟩) ∧ Ext w1 w5 := by assumption
      have k0' := (HX.out.trans hsz.2.2).cell HK0.out
      unfold tx askBtw at k0'
      clear hz0 hs0 hs1
      have HAV : Hid (ansP D askBtw (pairS D Q) = rowT (btwV D (dgt p) (dgt q))) := Lib.hid (by rw [HANS.out, HBV.out]; show (if askBtw = askFar then dg (at2 D (dgt p).toNat (dgt q).toNat) else rowT (selN (btwB D (dgt p).toNat (dgt q).toNat) D.length)) = _; exact if_neg (by decide))
      obtain ⟨hsl, hsx⟩ := HSL.out
      have HN := Lib.hid (fun A c W (q9 : Ints W A c (btwV D (dgt p) (dgt q))) => l11Row_any A c (btwV D (dgt p) (dgt q)) W q9 (fun i hi => by have := hsx i hi; omega) (by omega))
      have hs1z := lKeep hsz (Ext.drewN w5 1)
      obtain ⟨Z, hZ⟩ : ∃ Z, rowT (btwV D (dgt p) (dgt q)) = Z := ⟨_, rfl⟩
      rw [hZ] at HN HAV
      clear hsl hsx hZ HSL HIN HANS HBV
      go_wp2_with fail
      go_region_held3 (fun w' => w'.cell? ⟨b1, o1, none⟩ = some (.string ⟨p.toArray⟩) ∧ w'.cell? ⟨b1, o1 + 1, none⟩ = some (.string ⟨q.toArray⟩) ∧ Ext w1 w') (first | exact hs1z | exact lKeep (by assumption) (by assumption) | assumption)
        (first
          | (go_at_call 43; refine (HN.out _ _ _ hI5).mono ?_; rintro e w6 ⟨rfl, hx6⟩; unfold tx)
          | (go_at_call 83; refine (HBA.out _ (HX.out.trans (And.right (And.right (by assumption))))).mono ?_; rintro e w5 ⟨v5, rfl, hL5, -, hx5⟩; obtain ⟨A5, c5, rfl, hI5⟩ := hL5.ints; clear hL5)
          | (go_at_call 75; refine (l1Digits_any _ _ (by first | exact hp6 | exact hq6)).mono ?_; rintro e w3 ⟨rfl, hx3⟩))
      go_wp2_with fail
      go_ret
      exact ⟨by rw [HAV.out]; rfl, HX.out.trans (And.right (And.right (by assumption)))⟩
    · have hbv := btwV_out HSP.out hin
      have HANS : Hid (ansP D askBtw (pairS D Q) = askNone) := Lib.hid (by rw [HPY.out, if_neg hin]; rfl)
      have hz0 : (((btwV D (dgt p) (dgt q)).length : Int) == 0) = true := by rw [hbv]; rfl
      clear hbv HPY hin y0 y1
      go_region_held3 (fun w' => w'.cell? ⟨b1, o1, none⟩ = some (.string ⟨p.toArray⟩) ∧ w'.cell? ⟨b1, o1 + 1, none⟩ = some (.string ⟨q.toArray⟩) ∧ Ext w1 w') (first | exact hs1 | exact lKeep (by assumption) (by assumption) | assumption)
        (first
          | (go_at_call 83; refine (HBA.out _ (HX.out.trans (And.right (And.right (by assumption))))).mono ?_; rintro e w5 ⟨v5, rfl, hL5, -, hx5⟩; obtain ⟨A5, c5, rfl, -⟩ := hL5.ints; clear hL5)
          | (go_at_call 75; refine (l1Digits_any _ _ (by first | exact hp6 | exact hq6)).mono ?_; rintro e w3 ⟨rfl, hx3⟩))
      go_wp2_with fail
      go_ret
      exact ⟨by rw [HANS.out]; rfl, HX.out.trans (And.right (And.right (by assumption)))⟩
  · have h2' : ((ps.length : Int) == 2) = false := beq_eq_false_iff_ne.2 (by omega)
    have h2n : ((ps.length : Int) != 2) = true := by rw [bne, h2']; rfl
    have HANS : Hid (ansP D askBtw (pairS D Q) = askNone) := Lib.hid (by
      rw [HPS.out]
      show ansP D askBtw (if ps.length = 2 ∧ _ then _ else none) = _
      rw [if_neg (fun z => h2 z.1)]; rfl)
    clear h2 HPS HBT HT1 HPL
    go_quiet (fail)
    go_wp2_with fail
    go_ret
    exact ⟨by rw [HANS.out]; rfl, HX.out.drewN' _⟩
end Go.Proofs.YtnalcgcdohlfiaaGreatDoor
namespace Go.Proofs.YtnalcgcdohlfiaaGreatDoor
open Go.RowKit
theorem splitB_pp {D : List (List Int)} {l : Int} (h : splitB D l = true) : spB D = true ∧ 2 ≤ D.length ∧ D.length ≤ 6 ∧ 1 ≤ l ∧ l < 2 ^ (D.length - 1) ∧ l ≤ 31 := by
  unfold splitB at h
  simp only [Bool.and_eq_true, decide_eq_true_eq] at h
  obtain ⟨hs, h2, h3, h4⟩ := h
  have h6 := (spB_len hs).2
  have hp : (2 : Int) ^ (D.length - 1) ≤ 2 ^ 5 := by exact_mod_cast Nat.pow_le_pow_right (by decide) (by omega)
  have h5 : (2 : Int) ^ 5 = 32 := by decide
  exact ⟨hs, h2, h6, h3, h4, by omega⟩
theorem iso_same2 {D : List (List Int)} {l : Int} (h : splitB D l = true) : sisoI D l = isoI D l := by
  obtain ⟨hs, h2, h6, l1, l2, l3⟩ := splitB_pp h
  have hf := spB_far hs
  obtain ⟨k, hk, hb⟩ := lot_some l1 l2
  have hl := bit_last (n := D.length - 1) (by omega) l2
  have hin : IsoS D l (gap4 D k k (D.length - 1) (D.length - 1)) := ⟨k, by omega, k, by omega, D.length - 1, by omega, D.length - 1, by omega, ⟨hb, hb, hl, hl⟩, rfl⟩
  obtain ⟨a1, a2, a3⟩ := isoI_least D l
  have b := ((sisoI_least hf l).congr (SisoS_iff hf l)).1 (by decide)
  have hle : gap4 D k k (D.length - 1) (D.length - 1) ≤ 120 := (gap4_bd hf (by omega) (by omega) (by omega) (by omega)).2
  rcases b with ⟨_, b⟩ | ⟨b1, b2⟩
  · exact absurd hin (b _)
  · have c1 := a2 _ hin
    rcases a3 with a3 | a3
    · omega
    · have := a2 _ b1
      have := b2 _ a3
      omega
theorem splV_some2 {D : List (List Int)} (h : splitB D 1 = true) : splV D = splD D := by
  unfold splV; rw [if_pos (splitB_pp h).1]

set_option maxRecDepth 100000 in
set_option maxHeartbeats 4000000 in
theorem sSplits2_any (A : Option Addr) (cp : Nat) (D : List (List Int)) (w : World) (h : Mat w A cp D) :
    Calls Tryz.prog 46 #[.slice A D.length cp] w (FreshM w (splV D)) := by
  have HM := Lib.hid h
  have HS := Lib.hid (fun W (k : Mat W A cp D) => sSplitOk_any A cp D 1 W k)
  cases e : splitB D 1 with
  | false =>
    have HT := Lib.hid (splV_nil e)
    rw [e] at HS
    clear e
    go_enter Tryz.func46, Tryz.ntmps46
    go_wp2_with fail
    refine (HS.out _ (HM.out.ext (by repeat (first | exact Ext.refl _ | assumption | apply Ext.drewN' | apply Ext.alloc' | refine Ext.trans ?_ (by assumption))))).mono ?_
    rintro e w1 ⟨rfl, m1, rfl⟩
    go_wp2
    go_ret
    rw [HT.out]
    exact ((AccM.empty (Ext.refl _) (fun _ => .slice none 0 0)).on (by repeat (first | exact Ext.refl _ | assumption | apply Ext.drewN' | apply Ext.alloc' | refine Ext.trans ?_ (by assumption)))).done
  | true =>
    obtain ⟨hs, h2, h6, -, -, -⟩ := splitB_pp e
    obtain ⟨N, hN⟩ : ∃ N : Nat, 2 ^ (D.length - 1) = N := ⟨_, rfl⟩
    have hw : wrap64 (2 ^ (D.length - 1)) = ((N : Nat) : Int) := by rw [wrap_pow (by omega), ← hN]; simp
    obtain ⟨N1, N2⟩ : 1 ≤ N ∧ N ≤ 32 := by rw [← hN]; exact pow_bd h6
    have HT := Lib.hid (show splV D = splL (fun k => isoI D k) N by rw [splV_some2 e]; unfold splD; rw [hN])
    have HC := Lib.hid (fun (k : Nat) W (k1 : 1 ≤ k) (k2 : k < N) (q : Mat W A cp D) => (iso_same2 (splitB_mk hs h2 k1 (by rw [hN]; exact k2))) ▸ l10Isolated_any A cp D k W q (spB_far hs) (by omega))
    have HG := Lib.hid (fun k : Nat => isoI_le D k)
    have n1' : (0 : Int) ≤ (D.length : Int) - 1 := by omega
    rw [e] at HS
    clear hN h e hs
    go_enter Tryz.func46, Tryz.ntmps46
    go_wp2_with fail
    refine (HS.out _ (HM.out.ext (by repeat (first | exact Ext.refl _ | assumption | apply Ext.drewN' | apply Ext.alloc' | refine Ext.trans ?_ (by assumption))))).mono ?_
    rintro e w1 ⟨rfl, m1, rfl⟩
    go_wp2
    go_loopg [3, 4] (N - 1) (fun g s3 s4 wr => ∃ (k : Nat), k + g = N ∧ 1 ≤ k ∧ s4 = .int .i64 k ∧ ColR (fun k => isoI D k) w wr s3 g k (splL (fun k => isoI D k) N))
    case atStart => exact ⟨1, by omega, Nat.le_refl _, rfl, [], fun _ => .slice none 0 0, (AccM.empty (Ext.refl _) _).on (by repeat (first | exact Ext.refl _ | assumption | apply Ext.drewN' | apply Ext.alloc' | refine Ext.trans ?_ (by assumption))), by simp, rfl⟩
    case round =>
      obtain ⟨k, hi, hk1, rfl, hcol⟩ := hrel
      by_cases hin : k < N
      · obtain ⟨g', rfl⟩ : ∃ g', gk = g' + 1 := ⟨gk - 1, by omega⟩
        have hin' : (k : Int) < (N : Nat) := by omega
        have hx := hcol.x
        by_cases e : 0 < isoI D k
        · have HE := Lib.hid e
          go_wp2_with fail
          refine (HC.out k _ hk1 hin (HM.out.ext hx)).mono ?_
          rintro e w1 ⟨rfl, m1, rfl⟩
          have hcol2 := hcol.on (show Ext wr (wr.drewN m1) from (by repeat (first | exact Ext.refl _ | assumption | apply Ext.drewN' | apply Ext.alloc' | refine Ext.trans ?_ (by assumption))))
          go_wp2_with (at_builtin; refine ColR.push (y := isoI D k) rfl Tryz.underlying23 infoR rfl (.tmp 24) (.tmp 28) rfl _ rfl rfl hcol2 HE.out rfl (by omega) ?_; intro v' w' hcol')
          go_roundg g'
          case measure => omega
          case rel => exact ⟨k + 1, by omega, by omega, by go_num, hcol'⟩
        · have HE := Lib.hid e
          go_wp2_with fail
          refine (HC.out k _ hk1 hin (HM.out.ext hx)).mono ?_
          rintro e w1 ⟨rfl, m1, rfl⟩
          have hcol2 := hcol.on (show Ext wr (wr.drewN m1) from (by repeat (first | exact Ext.refl _ | assumption | apply Ext.drewN' | apply Ext.alloc' | refine Ext.trans ?_ (by assumption))))
          go_wp2
          go_roundg g'
          case measure => omega
          case rel => exact ⟨k + 1, by omega, by omega, by go_num, hcol2.skip (by have := HE.out; omega)⟩
      · have hin' : ¬ (k : Int) < (N : Nat) := by omega
        obtain rfl : gk = 0 := by omega
        go_wp2
        go_ret
        rw [HT.out]
        exact hcol.done
end Go.Proofs.YtnalcgcdohlfiaaGreatDoor
namespace Go.Proofs.YtnalcgcdohlfiaaGreatDoor
open Go.RowKit
/-- a desk to be read and a text handed back -/
def LnS (w : World) (D : List (List Int)) (L : List (List (List Int))) (T : List UInt8) (e : Ending) (w' : World) : Prop :=
  ∃ A c B d, e = .returned (.tuple #[.agg #[.slice A (List.length D) c, .slice B (List.length L) d], tx T]) ∧ From w.heap.size w' (fun W => Mat W A c D ∧ MatS W B d L) ∧ Ext w w'
theorem OwnDk.ln_s {w w' : World} {A B : Option Addr} {c d : Nat} {D : List (List Int)} {L : List (List (List Int))} {T : List UInt8} (h : OwnDk w.heap.size w' (.agg #[.slice A D.length c, .slice B L.length d]) D L) (hx : Ext w w') : LnS w D L T (.returned (.tuple #[.agg #[.slice A D.length c, .slice B L.length d], tx T])) w' := by
  obtain ⟨Z, U, V, hM, hS, -⟩ := h.both
  exact ⟨A, c, B, d, rfl, hM.from_of.2.and hS.from_.2, hx⟩
theorem lnS_fin {w W : World} {m : Nat} {x y : Value} {A B : Option Addr} {c d : Nat} {D : List (List Int)} {L : List (List (List Int))} {T : List UInt8} (hb : W.heap[m]? = some (.cells #[x, y] 26 (0, 0))) (hm : w.heap.size ≤ m) (hx : Ext w W) (hO : OwnDk w.heap.size W (.agg #[.slice A D.length c, .slice B L.length d]) D L) :
    LnS w D L T (.returned (.tuple #[.agg #[.slice A D.length c, .slice B L.length d], tx T])) ((W.setCell ⟨m, 0, none⟩ (.slice A D.length c)).setCell ⟨m, 1, none⟩ (.slice B L.length d)) :=
  (hO.keep (keepB_set2 hb _ _).2.2.2.2.2.2).ln_s ((hx.setCell' (p := ⟨m, 0, none⟩) hm _).setCell' (p := ⟨m, 1, none⟩) hm _)
theorem l11Ask_any (A : Option Addr) (cp : Nat) (D : List (List Int)) (Aw : Option Addr) (cw : Nat) (P Q : List UInt8) (w : World) (h : Mat w A cp D) (hs : spB D = true) (hT : Txts w Aw cw [P, Q]) (hl : Q.length ≤ 1048576) :
    Calls Tryz.prog 48 #[.slice A D.length cp, .slice Aw 2 cw] w fun e w' => e = .returned (tx (l11V D P Q)) ∧ Ext w w' := by
  by_cases f1 : P = askFar
  · subst f1
    rw [show l11V D askFar Q = ansP D askFar (pairS D Q) from if_pos (Or.inl rfl)]
    exact l11Ask_far A cp D Aw cw Q w h hs hT hl
  · by_cases f2 : P = askBtw
    · subst f2
      rw [show l11V D askBtw Q = ansP D askBtw (pairS D Q) from if_pos (Or.inr rfl)]
      exact l11Ask_btw A cp D Aw cw Q w h hs hT hl
    · exact l11Ask_other A cp D Aw cw P Q w hT hl f1 f2
end Go.Proofs.YtnalcgcdohlfiaaGreatDoor
namespace Go.Proofs.YtnalcgcdohlfiaaGreatDoor
open Go.RowKit
set_option maxRecDepth 100000 in
set_option maxHeartbeats 8000000 in
theorem sLine_points (A B : Option Addr) (c d : Nat) (D : List (List Int)) (L : List (List (List Int))) (w : World) (h1 : Mat w A c D) (h2 : MatS w B d L) (hd : deskB D L = true) :
    Calls Tryz.prog 22 #[.agg #[.slice A D.length c, .slice B L.length d], .string ⟨#[112, 111, 105, 110, 116, 115]⟩] w (LnS w D L (dg D.length)) := by
  have hs := (deskB_parts hd).1
  obtain ⟨n1, n6⟩ := spB_len hs
  have hm1 := h1.1
  have hm2 := h1.2.1
  unfold maxLen at hm2
  have HDK := Lib.hid (fun W (q : Ext w W) => sDeskOk_any A B c d D L W (h1.ext q) (h2.ext q))
  rw [hd] at HDK
  have HCP := Lib.hid (fun W (q : Ext w W) => l11Copy_any A B c d D L W (h1.ext q) (h2.ext q) (deskB_sm hd))
  have HRD := Lib.hid (fun W => sReadDeed_any [112, 111, 105, 110, 116, 115] W (by simp))
  rw [show rdS [112, 111, 105, 110, 116, 115] = none by decide +kernel] at HRD
  have hb0 := fun W (q : Ext ((w.alloc (.cells #[.slice A D.length c, .slice B L.length d] 26)).alloc (.cells #[.slice none 0 0, .slice none 0 0] 26)) W) => two_blocks q
  have HB0 := Lib.hid hb0
  have HXT := Lib.hid (show Ext w ((w.alloc (.cells #[.slice A D.length c, .slice B L.length d] 26)).alloc (.cells #[.slice none 0 0, .slice none 0 0] 26)) from (Ext.alloc _ _).alloc' _)
  have HNU := Lib.hid (fun W => l1Number_z (D.length : Int) (by omega) W)
  clear h1 h2 hd hs hb0
  go_enter Tryz.func22, Tryz.ntmps22
  go_wp2_with fail
  refine (HDK.out _ HXT.out).mono ?_
  rintro e w1 ⟨rfl, hx1⟩
  obtain ⟨b0, b1, hx, -⟩ := HB0.out w1 hx1
  obtain ⟨p0, p1⟩ := two_cells b0
  have H01 := Lib.hid (And.intro hx1 hx)
  clear b0 b1 hx1 hx
  go_wp2_with fail
  refine (HCP.out _ H01.out.2).mono ?_
  rintro e w2 ⟨v2, rfl, hO2, hx2⟩
  obtain ⟨Ac, cc, Bc, dc, rfl, -, -, ⟨hcc1, hcc2⟩, hdd1, hdd2⟩ := hO2.split
  obtain ⟨w3, hw3⟩ : ∃ W, w2.alloc (.cells #[.slice Ac D.length cc, .slice Bc L.length dc] 26) = W := ⟨_, rfl⟩
  have hx3 : Ext w2 w3 := by rw [← hw3]; exact Ext.alloc _ _
  have hb3 := heap_alloc_new w2 (.cells #[.slice Ac D.length cc, .slice Bc L.length dc] 26)
  rw [hw3] at hb3
  have HO3 := Lib.hid (And.intro (hO2.low (b' := w.heap.size) H01.out.2.size) (And.intro hx2 (And.intro hx3 hb3)))
  clear hO2 hx2 hx3 hb3 p0 p1
  go_wp2_with fail
  refine (HRD.out _).mono ?_
  rintro e w4 ⟨v4, rfl, hLf, -, hx4⟩
  obtain ⟨A4, c4, rfl, -⟩ := hLf.ints
  obtain ⟨w5, hw5⟩ : ∃ W, w4.alloc (.cells #[.int .i64 0, .slice A4 (rx none).length c4] 54) = W := ⟨_, rfl⟩
  have hx5 : Ext w4 w5 := by rw [← hw5]; exact Ext.alloc _ _
  have hx25 : Ext w2 w5 := HO3.out.2.2.1.trans (hx4.trans hx5)
  have hx15 : Ext w1 w5 := HO3.out.2.1.trans hx25
  have HX := Lib.hid (H01.out.2.trans hx15)
  have HQ := Lib.hid (fun W (q : Ext w5 W) => And.intro (HB0.out W (H01.out.1.trans (hx15.trans q))).1 (And.intro (HB0.out W (H01.out.1.trans (hx15.trans q))).2.1 (And.intro (((hx4.trans (hx5.trans q)).block (heap_lt HO3.out.2.2.2)).trans HO3.out.2.2.2) (HO3.out.1.keep (KeepB.of_ext (hx25.trans q))))))
  obtain ⟨q2, q4, q6, -⟩ := HQ.out w5 (Ext.refl _)
  obtain ⟨a0, a1⟩ := two_cells q2
  obtain ⟨g0, g1⟩ := two_cells q6
  have hrk : rk none = 0 := rfl
  have hm4 : w.heap.size ≤ w.heap.size + 1 := Nat.le_succ _
  clear q2 q4 q6 hLf hx4 hx5 hx25 hx15 HO3 H01 HRD HCP HDK
  go_wp2_with fail
  go_region_law (go_simp; (go_at_call 29; (fail_if_success (have q := hx6)); refine (HNU.out _).mono ?_; rintro e w6 ⟨rfl, hx6⟩; have hr6 : Ext w5 w6 := Ext.trans (by repeat (first | exact Ext.refl _ | apply Ext.alloc' | apply Ext.drew')) hx6; obtain ⟨q2, q4, q6, qO⟩ := HQ.out w6 hr6; obtain ⟨aa0, aa1⟩ := two_cells q2; obtain ⟨gg0, gg1⟩ := two_cells q6; obtain ⟨t1, t2, t3, t4, t5, t6, -⟩ := keepB_set2 (b := 0) q4 (.slice Ac D.length cc) (.slice Bc L.length dc); unfold tx))
  all_goals
    go_wp2_with fail
    refine bodyPost_ret (v := .tuple #[.agg #[.slice Ac D.length cc, .slice Bc L.length dc], tx (dg (D.length : Int))]) (by simp [results, Tryz.results22, go_sem, t5, t6, tx]) rfl ?_
    exact lnS_fin q4 hm4 (HX.out.trans hr6) qO
set_option maxRecDepth 100000 in
set_option maxHeartbeats 8000000 in
theorem sLine_wide (A B : Option Addr) (c d : Nat) (D : List (List Int)) (L : List (List (List Int))) (w : World) (h1 : Mat w A c D) (h2 : MatS w B d L) (hd : deskB D L = true) :
    Calls Tryz.prog 22 #[.agg #[.slice A D.length c, .slice B L.length d], .string ⟨#[119, 105, 100, 101]⟩] w (LnS w D L (dg (widI D))) := by
  have hs := (deskB_parts hd).1
  obtain ⟨n1, n6⟩ := spB_len hs
  have hm1 := h1.1
  have hm2 := h1.2.1
  unfold maxLen at hm2
  have HDK := Lib.hid (fun W (q : Ext w W) => sDeskOk_any A B c d D L W (h1.ext q) (h2.ext q))
  rw [hd] at HDK
  have HCP := Lib.hid (fun W (q : Ext w W) => l11Copy_any A B c d D L W (h1.ext q) (h2.ext q) (deskB_sm hd))
  have HRD := Lib.hid (fun W => sReadDeed_any [119, 105, 100, 101] W (by simp))
  rw [show rdS [119, 105, 100, 101] = none by decide +kernel] at HRD
  have hb0 := fun W (q : Ext ((w.alloc (.cells #[.slice A D.length c, .slice B L.length d] 26)).alloc (.cells #[.slice none 0 0, .slice none 0 0] 26)) W) => two_blocks q
  have HB0 := Lib.hid hb0
  have HXT := Lib.hid (show Ext w ((w.alloc (.cells #[.slice A D.length c, .slice B L.length d] 26)).alloc (.cells #[.slice none 0 0, .slice none 0 0] 26)) from (Ext.alloc _ _).alloc' _)
  have hbw := widI_bd hs
  have HWI := Lib.hid (fun W (q : Ext w W) => sWidthOf_any A c D W (h1.ext q) hs)
  have HNU := Lib.hid (fun W => l1Number_z (widI D) (by omega) W)
  clear hbw
  clear h1 h2 hd hs hb0
  go_enter Tryz.func22, Tryz.ntmps22
  go_wp2_with fail
  refine (HDK.out _ HXT.out).mono ?_
  rintro e w1 ⟨rfl, hx1⟩
  obtain ⟨b0, b1, hx, -⟩ := HB0.out w1 hx1
  obtain ⟨p0, p1⟩ := two_cells b0
  have H01 := Lib.hid (And.intro hx1 hx)
  clear b0 b1 hx1 hx
  go_wp2_with fail
  refine (HCP.out _ H01.out.2).mono ?_
  rintro e w2 ⟨v2, rfl, hO2, hx2⟩
  obtain ⟨Ac, cc, Bc, dc, rfl, -, -, ⟨hcc1, hcc2⟩, hdd1, hdd2⟩ := hO2.split
  obtain ⟨w3, hw3⟩ : ∃ W, w2.alloc (.cells #[.slice Ac D.length cc, .slice Bc L.length dc] 26) = W := ⟨_, rfl⟩
  have hx3 : Ext w2 w3 := by rw [← hw3]; exact Ext.alloc _ _
  have hb3 := heap_alloc_new w2 (.cells #[.slice Ac D.length cc, .slice Bc L.length dc] 26)
  rw [hw3] at hb3
  have HO3 := Lib.hid (And.intro (hO2.low (b' := w.heap.size) H01.out.2.size) (And.intro hx2 (And.intro hx3 hb3)))
  clear hO2 hx2 hx3 hb3 p0 p1
  go_wp2_with fail
  refine (HRD.out _).mono ?_
  rintro e w4 ⟨v4, rfl, hLf, -, hx4⟩
  obtain ⟨A4, c4, rfl, -⟩ := hLf.ints
  obtain ⟨w5, hw5⟩ : ∃ W, w4.alloc (.cells #[.int .i64 0, .slice A4 (rx none).length c4] 54) = W := ⟨_, rfl⟩
  have hx5 : Ext w4 w5 := by rw [← hw5]; exact Ext.alloc _ _
  have hx25 : Ext w2 w5 := HO3.out.2.2.1.trans (hx4.trans hx5)
  have hx15 : Ext w1 w5 := HO3.out.2.1.trans hx25
  have HX := Lib.hid (H01.out.2.trans hx15)
  have HQ := Lib.hid (fun W (q : Ext w5 W) => And.intro (HB0.out W (H01.out.1.trans (hx15.trans q))).1 (And.intro (HB0.out W (H01.out.1.trans (hx15.trans q))).2.1 (And.intro (((hx4.trans (hx5.trans q)).block (heap_lt HO3.out.2.2.2)).trans HO3.out.2.2.2) (HO3.out.1.keep (KeepB.of_ext (hx25.trans q))))))
  obtain ⟨q2, q4, q6, -⟩ := HQ.out w5 (Ext.refl _)
  obtain ⟨a0, a1⟩ := two_cells q2
  obtain ⟨g0, g1⟩ := two_cells q6
  have hrk : rk none = 0 := rfl
  have hm4 : w.heap.size ≤ w.heap.size + 1 := Nat.le_succ _
  clear q2 q4 q6 hLf hx4 hx5 hx25 hx15 HO3 H01 HRD HCP HDK
  go_wp2_with fail
  go_region_law (go_simp; first | (go_at_call 29; (fail_if_success (have q := hx7)); have qq := hr6; clear qq; refine (HNU.out _).mono ?_; rintro e w7 ⟨rfl, hx7⟩; have hr7 : Ext w5 w7 := Ext.trans (by repeat (first | exact hr6 | apply Ext.alloc' | apply Ext.drew')) hx7; obtain ⟨q2, q4, q6, qO⟩ := HQ.out w7 hr7; obtain ⟨aa0, aa1⟩ := two_cells q2; obtain ⟨gg0, gg1⟩ := two_cells q6; obtain ⟨t1, t2, t3, t4, t5, t6, -⟩ := keepB_set2 (b := 0) q4 (.slice Ac D.length cc) (.slice Bc L.length dc); unfold tx) | (go_at_call 40; (fail_if_success (have q := hr6)); refine (HWI.out _ (by repeat (first | exact HX.out | apply Ext.alloc' | apply Ext.drew'))).mono ?_; rintro e w6 ⟨rfl, m6, hw6⟩; have hr6 : Ext w5 w6 := (by rw [hw6]; repeat (first | exact Ext.refl _ | apply Ext.drewN' | apply Ext.drew')); clear hw6; obtain ⟨q2, q4, q6, qO⟩ := HQ.out w6 hr6; obtain ⟨aa0, aa1⟩ := two_cells q2; obtain ⟨gg0, gg1⟩ := two_cells q6; obtain ⟨t1, t2, t3, t4, t5, t6, -⟩ := keepB_set2 (b := 0) q4 (.slice Ac D.length cc) (.slice Bc L.length dc)))
  all_goals
    go_wp2_with fail
    refine bodyPost_ret (v := .tuple #[.agg #[.slice Ac D.length cc, .slice Bc L.length dc], tx (dg (widI D))]) (by simp [results, Tryz.results22, go_sem, t5, t6, tx]) rfl ?_
    exact lnS_fin q4 hm4 (HX.out.trans hr7) qO
set_option maxRecDepth 100000 in
set_option maxHeartbeats 8000000 in
theorem sLine_gap (A B : Option Addr) (c d : Nat) (D : List (List Int)) (L : List (List (List Int))) (w : World) (h1 : Mat w A c D) (h2 : MatS w B d L) (hd : deskB D L = true) :
    Calls Tryz.prog 22 #[.agg #[.slice A D.length c, .slice B L.length d], .string ⟨#[103, 97, 112]⟩] w (LnS w D L (dg (wgI D))) := by
  have hs := (deskB_parts hd).1
  obtain ⟨n1, n6⟩ := spB_len hs
  have hm1 := h1.1
  have hm2 := h1.2.1
  unfold maxLen at hm2
  have HDK := Lib.hid (fun W (q : Ext w W) => sDeskOk_any A B c d D L W (h1.ext q) (h2.ext q))
  rw [hd] at HDK
  have HCP := Lib.hid (fun W (q : Ext w W) => l11Copy_any A B c d D L W (h1.ext q) (h2.ext q) (deskB_sm hd))
  have HRD := Lib.hid (fun W => sReadDeed_any [103, 97, 112] W (by simp))
  rw [show rdS [103, 97, 112] = none by decide +kernel] at HRD
  have hb0 := fun W (q : Ext ((w.alloc (.cells #[.slice A D.length c, .slice B L.length d] 26)).alloc (.cells #[.slice none 0 0, .slice none 0 0] 26)) W) => two_blocks q
  have HB0 := Lib.hid hb0
  have HXT := Lib.hid (show Ext w ((w.alloc (.cells #[.slice A D.length c, .slice B L.length d] 26)).alloc (.cells #[.slice none 0 0, .slice none 0 0] 26)) from (Ext.alloc _ _).alloc' _)
  have hbw := wgI_60 hs
  have hbv := wgI_pos D
  have HWI := Lib.hid (fun W (q : Ext w W) => sWorstGap_any A c D W (h1.ext q) hs)
  have HNU := Lib.hid (fun W => l1Number_z (wgI D) (by omega) W)
  clear hbw hbv
  clear h1 h2 hd hs hb0
  go_enter Tryz.func22, Tryz.ntmps22
  go_wp2_with fail
  refine (HDK.out _ HXT.out).mono ?_
  rintro e w1 ⟨rfl, hx1⟩
  obtain ⟨b0, b1, hx, -⟩ := HB0.out w1 hx1
  obtain ⟨p0, p1⟩ := two_cells b0
  have H01 := Lib.hid (And.intro hx1 hx)
  clear b0 b1 hx1 hx
  go_wp2_with fail
  refine (HCP.out _ H01.out.2).mono ?_
  rintro e w2 ⟨v2, rfl, hO2, hx2⟩
  obtain ⟨Ac, cc, Bc, dc, rfl, -, -, ⟨hcc1, hcc2⟩, hdd1, hdd2⟩ := hO2.split
  obtain ⟨w3, hw3⟩ : ∃ W, w2.alloc (.cells #[.slice Ac D.length cc, .slice Bc L.length dc] 26) = W := ⟨_, rfl⟩
  have hx3 : Ext w2 w3 := by rw [← hw3]; exact Ext.alloc _ _
  have hb3 := heap_alloc_new w2 (.cells #[.slice Ac D.length cc, .slice Bc L.length dc] 26)
  rw [hw3] at hb3
  have HO3 := Lib.hid (And.intro (hO2.low (b' := w.heap.size) H01.out.2.size) (And.intro hx2 (And.intro hx3 hb3)))
  clear hO2 hx2 hx3 hb3 p0 p1
  go_wp2_with fail
  refine (HRD.out _).mono ?_
  rintro e w4 ⟨v4, rfl, hLf, -, hx4⟩
  obtain ⟨A4, c4, rfl, -⟩ := hLf.ints
  obtain ⟨w5, hw5⟩ : ∃ W, w4.alloc (.cells #[.int .i64 0, .slice A4 (rx none).length c4] 54) = W := ⟨_, rfl⟩
  have hx5 : Ext w4 w5 := by rw [← hw5]; exact Ext.alloc _ _
  have hx25 : Ext w2 w5 := HO3.out.2.2.1.trans (hx4.trans hx5)
  have hx15 : Ext w1 w5 := HO3.out.2.1.trans hx25
  have HX := Lib.hid (H01.out.2.trans hx15)
  have HQ := Lib.hid (fun W (q : Ext w5 W) => And.intro (HB0.out W (H01.out.1.trans (hx15.trans q))).1 (And.intro (HB0.out W (H01.out.1.trans (hx15.trans q))).2.1 (And.intro (((hx4.trans (hx5.trans q)).block (heap_lt HO3.out.2.2.2)).trans HO3.out.2.2.2) (HO3.out.1.keep (KeepB.of_ext (hx25.trans q))))))
  obtain ⟨q2, q4, q6, -⟩ := HQ.out w5 (Ext.refl _)
  obtain ⟨a0, a1⟩ := two_cells q2
  obtain ⟨g0, g1⟩ := two_cells q6
  have hrk : rk none = 0 := rfl
  have hm4 : w.heap.size ≤ w.heap.size + 1 := Nat.le_succ _
  clear q2 q4 q6 hLf hx4 hx5 hx25 hx15 HO3 H01 HRD HCP HDK
  go_wp2_with fail
  go_region_law (go_simp; first | (go_at_call 29; (fail_if_success (have q := hx7)); have qq := hr6; clear qq; refine (HNU.out _).mono ?_; rintro e w7 ⟨rfl, hx7⟩; have hr7 : Ext w5 w7 := Ext.trans (by repeat (first | exact hr6 | apply Ext.alloc' | apply Ext.drew')) hx7; obtain ⟨q2, q4, q6, qO⟩ := HQ.out w7 hr7; obtain ⟨aa0, aa1⟩ := two_cells q2; obtain ⟨gg0, gg1⟩ := two_cells q6; obtain ⟨t1, t2, t3, t4, t5, t6, -⟩ := keepB_set2 (b := 0) q4 (.slice Ac D.length cc) (.slice Bc L.length dc); unfold tx) | (go_at_call 42; (fail_if_success (have q := hx6)); refine (HWI.out _ (by repeat (first | exact HX.out | apply Ext.alloc' | apply Ext.drew'))).mono ?_; rintro e w6 ⟨rfl, hx6⟩; have hr6 : Ext w5 w6 := Ext.trans (by repeat (first | exact Ext.refl _ | apply Ext.alloc' | apply Ext.drew')) hx6; obtain ⟨q2, q4, q6, qO⟩ := HQ.out w6 hr6; obtain ⟨aa0, aa1⟩ := two_cells q2; obtain ⟨gg0, gg1⟩ := two_cells q6; obtain ⟨t1, t2, t3, t4, t5, t6, -⟩ := keepB_set2 (b := 0) q4 (.slice Ac D.length cc) (.slice Bc L.length dc); skip))
  all_goals
    go_wp2_with fail
    refine bodyPost_ret (v := .tuple #[.agg #[.slice Ac D.length cc, .slice Bc L.length dc], tx (dg (wgI D))]) (by simp [results, Tryz.results22, go_sem, t5, t6, tx]) rfl ?_
    exact lnS_fin q4 hm4 (HX.out.trans hr7) qO
set_option maxRecDepth 100000 in
set_option maxHeartbeats 8000000 in
theorem sLine_radius (A B : Option Addr) (c d : Nat) (D : List (List Int)) (L : List (List (List Int))) (w : World) (h1 : Mat w A c D) (h2 : MatS w B d L) (hd : deskB D L = true) :
    Calls Tryz.prog 22 #[.agg #[.slice A D.length c, .slice B L.length d], .string ⟨#[114, 97, 100, 105, 117, 115]⟩] w (LnS w D L (rowT [maxI (row D (radP D)), (radP D : Int)])) := by
  have hs := (deskB_parts hd).1
  obtain ⟨n1, n6⟩ := spB_len hs
  have hm1 := h1.1
  have hm2 := h1.2.1
  unfold maxLen at hm2
  have HDK := Lib.hid (fun W (q : Ext w W) => sDeskOk_any A B c d D L W (h1.ext q) (h2.ext q))
  rw [hd] at HDK
  have HCP := Lib.hid (fun W (q : Ext w W) => l11Copy_any A B c d D L W (h1.ext q) (h2.ext q) (deskB_sm hd))
  have HRD := Lib.hid (fun W => sReadDeed_any [114, 97, 100, 105, 117, 115] W (by simp))
  rw [show rdS [114, 97, 100, 105, 117, 115] = none by decide +kernel] at HRD
  have hb0 := fun W (q : Ext ((w.alloc (.cells #[.slice A D.length c, .slice B L.length d] 26)).alloc (.cells #[.slice none 0 0, .slice none 0 0] 26)) W) => two_blocks q
  have HB0 := Lib.hid hb0
  have HXT := Lib.hid (show Ext w ((w.alloc (.cells #[.slice A D.length c, .slice B L.length d] 26)).alloc (.cells #[.slice none 0 0, .slice none 0 0] 26)) from (Ext.alloc _ _).alloc' _)
  have hlt := radP_lt (D := D) (by omega)
  have hbr := row_bd hs hlt
  have HRA := Lib.hid (fun W (q : Ext w W) => sRadius_x A c D W (h1.ext q) hs)
  have hrow : rowT [maxI (row D (radP D)), (radP D : Int)] = dg (maxI (row D (radP D))) ++ 44 :: dg (radP D : Int) := by rw [rowT_two, rowT_one]
  obtain ⟨r, hr⟩ : ∃ r, maxI (row D (radP D)) = r := ⟨_, rfl⟩
  rw [hr] at HRA hbr hrow ⊢
  obtain ⟨z, hz⟩ : ∃ r, radP D = r := ⟨_, rfl⟩
  rw [hz] at HRA hlt hrow ⊢
  have HNU := Lib.hid (fun W => l1Number_z r (by omega) W)
  have HNV := Lib.hid (fun W => l1Number_z (z : Int) (by omega) W)
  have hP3 := dg_len (x := r) (by omega)
  have hQ3 := dg_len (x := (z : Int)) (by omega)
  obtain ⟨P, hP⟩ : ∃ P, dg r = P := ⟨_, rfl⟩
  obtain ⟨Q, hQ⟩ : ∃ P, dg (z : Int) = P := ⟨_, rfl⟩
  rw [hP] at hP3 hrow HNU
  rw [hQ] at hQ3 hrow HNV
  obtain ⟨P1, hP1⟩ : ∃ r, P ++ [44] = r := ⟨_, rfl⟩
  obtain ⟨P2, hP2⟩ : ∃ r, P1 ++ Q = r := ⟨_, rfl⟩
  have e1 : ((⟨P.toArray⟩ : ByteArray) ++ ⟨#[44]⟩) = ⟨P1.toArray⟩ := by rw [← hP1]; exact tx_add P [44]
  have e2 : ((⟨P1.toArray⟩ : ByteArray) ++ ⟨Q.toArray⟩) = ⟨P2.toArray⟩ := by rw [← hP2]; exact tx_add P1 Q
  have hl1 : P1.length ≤ 4 := by rw [← hP1, List.length_append, List.length_singleton]; omega
  have nl1 : ¬ 9223372036854775807 < P.length + 1 := by omega
  have nl2 : ¬ 9223372036854775807 < P1.length + Q.length := by omega
  have hw2 : rowT [r, (z : Int)] = P2 := by rw [hrow, ← hP2, ← hP1]; simp
  rw [hw2]
  clear hrow hr hz hP hQ hP1 hP2 hw2 hlt hbr
  clear h1 h2 hd hs hb0
  go_enter Tryz.func22, Tryz.ntmps22
  go_wp2_with fail
  refine (HDK.out _ HXT.out).mono ?_
  rintro e w1 ⟨rfl, hx1⟩
  obtain ⟨b0, b1, hx, -⟩ := HB0.out w1 hx1
  obtain ⟨p0, p1⟩ := two_cells b0
  have H01 := Lib.hid (And.intro hx1 hx)
  clear b0 b1 hx1 hx
  go_wp2_with fail
  refine (HCP.out _ H01.out.2).mono ?_
  rintro e w2 ⟨v2, rfl, hO2, hx2⟩
  obtain ⟨Ac, cc, Bc, dc, rfl, -, -, ⟨hcc1, hcc2⟩, hdd1, hdd2⟩ := hO2.split
  obtain ⟨w3, hw3⟩ : ∃ W, w2.alloc (.cells #[.slice Ac D.length cc, .slice Bc L.length dc] 26) = W := ⟨_, rfl⟩
  have hx3 : Ext w2 w3 := by rw [← hw3]; exact Ext.alloc _ _
  have hb3 := heap_alloc_new w2 (.cells #[.slice Ac D.length cc, .slice Bc L.length dc] 26)
  rw [hw3] at hb3
  have HO3 := Lib.hid (And.intro (hO2.low (b' := w.heap.size) H01.out.2.size) (And.intro hx2 (And.intro hx3 hb3)))
  clear hO2 hx2 hx3 hb3 p0 p1
  go_wp2_with fail
  refine (HRD.out _).mono ?_
  rintro e w4 ⟨v4, rfl, hLf, -, hx4⟩
  obtain ⟨A4, c4, rfl, -⟩ := hLf.ints
  obtain ⟨w5, hw5⟩ : ∃ W, w4.alloc (.cells #[.int .i64 0, .slice A4 (rx none).length c4] 54) = W := ⟨_, rfl⟩
  have hx5 : Ext w4 w5 := by rw [← hw5]; exact Ext.alloc _ _
  have hx25 : Ext w2 w5 := HO3.out.2.2.1.trans (hx4.trans hx5)
  have hx15 : Ext w1 w5 := HO3.out.2.1.trans hx25
  have HX := Lib.hid (H01.out.2.trans hx15)
  have HQ := Lib.hid (fun W (q : Ext w5 W) => And.intro (HB0.out W (H01.out.1.trans (hx15.trans q))).1 (And.intro (HB0.out W (H01.out.1.trans (hx15.trans q))).2.1 (And.intro (((hx4.trans (hx5.trans q)).block (heap_lt HO3.out.2.2.2)).trans HO3.out.2.2.2) (HO3.out.1.keep (KeepB.of_ext (hx25.trans q))))))
  obtain ⟨q2, q4, q6, -⟩ := HQ.out w5 (Ext.refl _)
  obtain ⟨a0, a1⟩ := two_cells q2
  obtain ⟨g0, g1⟩ := two_cells q6
  have hrk : rk none = 0 := rfl
  have hm4 : w.heap.size ≤ w.heap.size + 1 := Nat.le_succ _
  clear q2 q4 q6 hLf hx4 hx5 hx25 hx15 HO3 H01 HRD HCP HDK
  go_wp2_with fail
  refine (HRA.out _ HX.out).mono ?_
  rintro e w6 ⟨rfl, m6, hw6⟩
  have hr6 : Ext w5 w6 := by rw [hw6]; exact Ext.drewN _ _
  clear hw6 a0 a1 g0 g1
  obtain ⟨q2', q4', q6', -⟩ := HQ.out w6 hr6
  obtain ⟨a0, a1⟩ := two_cells q2'
  obtain ⟨g0, g1⟩ := two_cells q6'
  clear q2' q4' q6'
  go_wp2_with fail
  go_region_law (go_simp; first | (go_at_call 29; (fail_if_success (have q := hx8)); have qq := hr7; clear qq; refine (HNV.out _).mono ?_; rintro e w8 ⟨rfl, hx8⟩; have hr8 : Ext w5 w8 := Ext.trans (by repeat (first | exact hr7 | apply Ext.alloc' | apply Ext.drew')) hx8; obtain ⟨q2, q4, q6, qO⟩ := HQ.out w8 hr8; obtain ⟨aa0, aa1⟩ := two_cells q2; obtain ⟨gg0, gg1⟩ := two_cells q6; obtain ⟨t1, t2, t3, t4, t5, t6, -⟩ := keepB_set2 (b := 0) q4 (.slice Ac D.length cc) (.slice Bc L.length dc); unfold tx) | (go_at_call 29; (fail_if_success (have q := hx7)); have qq := hr6; clear qq; refine (HNU.out _).mono ?_; rintro e w7 ⟨rfl, hx7⟩; have hr7 : Ext w5 w7 := Ext.trans (by repeat (first | exact hr6 | apply Ext.alloc' | apply Ext.drew')) hx7; obtain ⟨q2, q4, q6, qO⟩ := HQ.out w7 hr7; obtain ⟨aa0, aa1⟩ := two_cells q2; obtain ⟨gg0, gg1⟩ := two_cells q6; obtain ⟨t1, t2, t3, t4, t5, t6, -⟩ := keepB_set2 (b := 0) q4 (.slice Ac D.length cc) (.slice Bc L.length dc); unfold tx))
  all_goals
    go_wp2_with fail
    refine bodyPost_ret (v := .tuple #[.agg #[.slice Ac D.length cc, .slice Bc L.length dc], tx (P2)]) (by simp [results, Tryz.results22, go_sem, t5, t6, tx]) rfl ?_
    exact lnS_fin q4 hm4 (HX.out.trans hr8) qO
end Go.Proofs.YtnalcgcdohlfiaaGreatDoor
namespace Go.Proofs.YtnalcgcdohlfiaaGreatDoor
open Go.RowKit
set_option maxRecDepth 100000 in
set_option maxHeartbeats 8000000 in
theorem sLine_medians (A B : Option Addr) (c d : Nat) (D : List (List Int)) (L : List (List (List Int))) (w : World) (h1 : Mat w A c D) (h2 : MatS w B d L) (hd : deskB D L = true) :
    Calls Tryz.prog 22 #[.agg #[.slice A D.length c, .slice B L.length d], .string ⟨#[109, 101, 100, 105, 97, 110, 115]⟩] w (LnS w D L (rowT (medsV D (ones D.length)))) := by
  have hs := (deskB_parts hd).1
  obtain ⟨n1, n6⟩ := spB_len hs
  have hm1 := h1.1
  have hm2 := h1.2.1
  unfold maxLen at hm2
  have HDK := Lib.hid (fun W (q : Ext w W) => sDeskOk_any A B c d D L W (h1.ext q) (h2.ext q))
  rw [hd] at HDK
  have HCP := Lib.hid (fun W (q : Ext w W) => l11Copy_any A B c d D L W (h1.ext q) (h2.ext q) (deskB_sm hd))
  have HRD := Lib.hid (fun W => sReadDeed_any [109, 101, 100, 105, 97, 110, 115] W (by simp))
  rw [show rdS [109, 101, 100, 105, 97, 110, 115] = none by decide +kernel] at HRD
  have hb0 := fun W (q : Ext ((w.alloc (.cells #[.slice A D.length c, .slice B L.length d] 26)).alloc (.cells #[.slice none 0 0, .slice none 0 0] 26)) W) => two_blocks q
  have HB0 := Lib.hid hb0
  have HXT := Lib.hid (show Ext w ((w.alloc (.cells #[.slice A D.length c, .slice B L.length d] 26)).alloc (.cells #[.slice none 0 0, .slice none 0 0] 26)) from (Ext.alloc _ _).alloc' _)
  have hol := ones_len D.length
  have HME := Lib.hid (fun W (q : Ext w W) X x (k : Ints W X x (ones D.length)) => sMediansOf_any A c D X x (ones D.length) W (h1.ext q) k)
  rw [hol] at HME
  have hsx := selN_ix (medP D (ones D.length)) D.length
  have hsl := selN_len (medP D (ones D.length)) D.length
  rw [← medsV_ones hs] at hsx hsl
  obtain ⟨xs, hxs⟩ : ∃ xs, medsV D (ones D.length) = xs := ⟨_, rfl⟩
  rw [hxs] at HME hsx hsl ⊢
  have HN := Lib.hid (fun A c W (q : Ints W A c xs) => l11Row_any A c xs W q (fun i hi => by have := hsx i hi; omega) (by omega))
  have HOL := Lib.hid hol
  obtain ⟨TT, hTT⟩ : ∃ T, rowT xs = T := ⟨_, rfl⟩
  rw [hTT] at HN ⊢
  clear hol hsx hsl hxs hTT
  clear h1 h2 hd hs hb0
  go_enter Tryz.func22, Tryz.ntmps22
  go_wp2_with fail
  refine (HDK.out _ HXT.out).mono ?_
  rintro e w1 ⟨rfl, hx1⟩
  obtain ⟨b0, b1, hx, -⟩ := HB0.out w1 hx1
  obtain ⟨p0, p1⟩ := two_cells b0
  have H01 := Lib.hid (And.intro hx1 hx)
  clear b0 b1 hx1 hx
  go_wp2_with fail
  refine (HCP.out _ H01.out.2).mono ?_
  rintro e w2 ⟨v2, rfl, hO2, hx2⟩
  obtain ⟨Ac, cc, Bc, dc, rfl, -, -, ⟨hcc1, hcc2⟩, hdd1, hdd2⟩ := hO2.split
  obtain ⟨w3, hw3⟩ : ∃ W, w2.alloc (.cells #[.slice Ac D.length cc, .slice Bc L.length dc] 26) = W := ⟨_, rfl⟩
  have hx3 : Ext w2 w3 := by rw [← hw3]; exact Ext.alloc _ _
  have hb3 := heap_alloc_new w2 (.cells #[.slice Ac D.length cc, .slice Bc L.length dc] 26)
  rw [hw3] at hb3
  have HO3 := Lib.hid (And.intro (hO2.low (b' := w.heap.size) H01.out.2.size) (And.intro hx2 (And.intro hx3 hb3)))
  clear hO2 hx2 hx3 hb3 p0 p1
  go_wp2_with fail
  refine (HRD.out _).mono ?_
  rintro e w4 ⟨v4, rfl, hLf, -, hx4⟩
  obtain ⟨A4, c4, rfl, -⟩ := hLf.ints
  obtain ⟨w5, hw5⟩ : ∃ W, w4.alloc (.cells #[.int .i64 0, .slice A4 (rx none).length c4] 54) = W := ⟨_, rfl⟩
  have hx5 : Ext w4 w5 := by rw [← hw5]; exact Ext.alloc _ _
  have hx25 : Ext w2 w5 := HO3.out.2.2.1.trans (hx4.trans hx5)
  have hx15 : Ext w1 w5 := HO3.out.2.1.trans hx25
  have HX := Lib.hid (H01.out.2.trans hx15)
  have HQ := Lib.hid (fun W (q : Ext w5 W) => And.intro (HB0.out W (H01.out.1.trans (hx15.trans q))).1 (And.intro (HB0.out W (H01.out.1.trans (hx15.trans q))).2.1 (And.intro (((hx4.trans (hx5.trans q)).block (heap_lt HO3.out.2.2.2)).trans HO3.out.2.2.2) (HO3.out.1.keep (KeepB.of_ext (hx25.trans q))))))
  obtain ⟨q2, q4, q6, -⟩ := HQ.out w5 (Ext.refl _)
  obtain ⟨a0, a1⟩ := two_cells q2
  obtain ⟨g0, g1⟩ := two_cells q6
  have hrk : rk none = 0 := rfl
  have hm4 : w.heap.size ≤ w.heap.size + 1 := Nat.le_succ _
  clear q2 q4 q6 hLf hx4 hx5 hx25 hx15 HO3 H01 HRD HCP HDK
  go_wp2_with fail
  go_loopg [14, 15] D.length (fun g s14 s15 wr => ∃ (i : Nat) (v : Value), i + g = D.length ∧ s15 = .int .i64 i ∧ v = s14 ∧ Hid (Acc w5 wr 3 v ((ones i).map (Value.int .i64))))
  case atStart => exact ⟨0, _, by omega, rfl, rfl, Lib.hid (Acc.empty _ (Ext.refl _))⟩
  case round =>
    obtain ⟨i, v, hi, rfl, rfl, HW⟩ := hrel
    clear a0 a1 g0 g1
    obtain ⟨q2', -, q6', -⟩ := HQ.out wr HW.out.x
    obtain ⟨a0, a1⟩ := two_cells q2'
    obtain ⟨g0, g1⟩ := two_cells q6'
    clear q2' q6'

    by_cases hin : i < D.length
    · obtain ⟨k1, rfl⟩ : ∃ g', gk = g' + 1 := ⟨gk - 1, by omega⟩
      have hin' : (i : Int) < (D.length : Nat) := by omega
      have HPU := Lib.hid (app_run (P := Tryz.prog) (w0 := w5) (T := 47) (E := 3) (ty := 47) Tryz.underlying47 infoI rfl (by decide) v ((ones i).map (Value.int .i64)) ⟨wr.heap.size, 0, none⟩ 1 1 [.int .i64 1] rfl (one_news (cell_new0 wr _ _) rfl) (map_one [1]) (HW.out.on (Ext.alloc wr (.cells #[.int .i64 1] 3))) (by simp [ones]; omega))
      have HS := Lib.hid (ones_succ i)
      clear HW
      go_wp2_with (at_builtin; go_loud (refine wpList_ex rfl _ _ rfl _ (.slice (some ⟨_, 0, none⟩) 1 1) rfl rfl HPU.out ?_; rintro v6 w6 hS6))
      go_roundg k1
      case measure => omega
      case rel => exact ⟨i + 1, _, by omega, by go_num, rfl, Lib.hid (by rw [HS.out]; exact hS6.1)⟩
    · have hin' : ¬ (i : Int) < (D.length : Nat) := by omega
      obtain rfl : i = D.length := by omega
      have ha := HW.out
      obtain ⟨hLf, -⟩ := Leaf.of_own ha.2
      obtain ⟨A8, c8, hv, hI⟩ := hLf.ints
      rw [HOL.out] at hv
      subst hv
      have HI := Lib.hid (fun W (q : Ext wr W) => hI.ext q)
      have HRW := Lib.hid ha.1
      clear ha hLf hI HW
      go_wp2_with fail
      go_region_law (go_simp; first | (go_at_call 43; (fail_if_success (have q := hx7)); have qq := hr6; clear qq; refine (HN.out _ _ _ hI6).mono ?_; rintro e w7 ⟨rfl, hx7⟩; have hr7 : Ext wr w7 := hr6.trans hx7; obtain ⟨q2, q4, q6, qO⟩ := HQ.out w7 (HRW.out.trans hr7); obtain ⟨aa0, aa1⟩ := two_cells q2; obtain ⟨gg0, gg1⟩ := two_cells q6; obtain ⟨t1, t2, t3, t4, t5, t6, -⟩ := keepB_set2 (b := 0) q4 (.slice Ac D.length cc) (.slice Bc L.length dc); unfold tx) | (go_at_call 44; (fail_if_success (have q := hx6)); refine (HME.out _ (by repeat (first | exact HX.out.trans HRW.out | apply Ext.alloc' | apply Ext.drew')) _ _ (HI.out _ (by repeat (first | exact Ext.refl _ | apply Ext.alloc' | apply Ext.drew')))).mono ?_; rintro e w6 ⟨v6, rfl, hL6, -, hx6⟩; obtain ⟨A6, c6, rfl, hI6⟩ := hL6.ints; clear hL6; have hr6 : Ext wr w6 := Ext.trans (by repeat (first | exact Ext.refl _ | apply Ext.alloc' | apply Ext.drew')) hx6; obtain ⟨q2, q4, q6, qO⟩ := HQ.out w6 (HRW.out.trans hr6); obtain ⟨aa0, aa1⟩ := two_cells q2; obtain ⟨gg0, gg1⟩ := two_cells q6; obtain ⟨t1, t2, t3, t4, t5, t6, -⟩ := keepB_set2 (b := 0) q4 (.slice Ac D.length cc) (.slice Bc L.length dc)))
      all_goals
        go_wp2_with fail
        refine bodyPost_ret (v := .tuple #[.agg #[.slice Ac D.length cc, .slice Bc L.length dc], tx (TT)]) (by simp [results, Tryz.results22, go_sem, t5, t6, tx]) rfl ?_
        exact lnS_fin q4 hm4 (HX.out.trans (HRW.out.trans hr7)) qO
set_option maxRecDepth 100000 in
set_option maxHeartbeats 8000000 in
theorem sLine_steps (A B : Option Addr) (c d : Nat) (D : List (List Int)) (L : List (List (List Int))) (w : World) (h1 : Mat w A c D) (h2 : MatS w B d L) (hd : deskB D L = true) :
    Calls Tryz.prog 22 #[.agg #[.slice A D.length c, .slice B L.length d], .string ⟨#[115, 116, 101, 112, 115]⟩] w (LnS w D L (orN (rowT (Lib.compact (srt (upN (blwV D) D.length)))))) := by
  have hs := (deskB_parts hd).1
  obtain ⟨n1, n6⟩ := spB_len hs
  have hm1 := h1.1
  have hm2 := h1.2.1
  unfold maxLen at hm2
  have HDK := Lib.hid (fun W (q : Ext w W) => sDeskOk_any A B c d D L W (h1.ext q) (h2.ext q))
  rw [hd] at HDK
  have HCP := Lib.hid (fun W (q : Ext w W) => l11Copy_any A B c d D L W (h1.ext q) (h2.ext q) (deskB_sm hd))
  have HRD := Lib.hid (fun W => sReadDeed_any [115, 116, 101, 112, 115] W (by simp))
  rw [show rdS [115, 116, 101, 112, 115] = none by decide +kernel] at HRD
  have hb0 := fun W (q : Ext ((w.alloc (.cells #[.slice A D.length c, .slice B L.length d] 26)).alloc (.cells #[.slice none 0 0, .slice none 0 0] 26)) W) => two_blocks q
  have HB0 := Lib.hid hb0
  have HXT := Lib.hid (show Ext w ((w.alloc (.cells #[.slice A D.length c, .slice B L.length d] 26)).alloc (.cells #[.slice none 0 0, .slice none 0 0] 26)) from (Ext.alloc _ _).alloc' _)
  have HST := Lib.hid (fun W (q : Ext w W) => sStepsOf_any A c D W (h1.ext q) hs)
  have hsp := blwV_sp (spB_far hs)
  have hbl : (blwV D).length = D.length := (blwV_p (spB_far hs)).1.2
  have hbd := steps_bd hsp
  rw [hbl] at hbd
  have hsame := steps_same hsp
  rw [hbl] at hsame
  rw [hsame] at hbd ⊢
  obtain ⟨xs, hxs⟩ : ∃ xs, stpR (blwV D) 60 = xs := ⟨_, rfl⟩
  rw [hxs] at HST hbd ⊢
  have HN := Lib.hid (fun A c W (q : Ints W A c xs) => l11Row_any A c xs W q hbd.1 (by omega))
  have HNE := Lib.hid (show xs = [] → orN (rowT xs) = [110, 111, 110, 101] from fun h => by rw [h]; rfl)
  have HYE := Lib.hid (show xs ≠ [] → orN (rowT xs) = rowT xs from fun h => if_neg (rowT_ne h))
  obtain ⟨TT, hTT⟩ : ∃ T, rowT xs = T := ⟨_, rfl⟩
  rw [hTT] at HN HNE HYE ⊢
  clear hsp hbl hbd hsame hxs hTT
  clear h1 h2 hd hs hb0
  go_enter Tryz.func22, Tryz.ntmps22
  go_wp2_with fail
  refine (HDK.out _ HXT.out).mono ?_
  rintro e w1 ⟨rfl, hx1⟩
  obtain ⟨b0, b1, hx, -⟩ := HB0.out w1 hx1
  obtain ⟨p0, p1⟩ := two_cells b0
  have H01 := Lib.hid (And.intro hx1 hx)
  clear b0 b1 hx1 hx
  go_wp2_with fail
  refine (HCP.out _ H01.out.2).mono ?_
  rintro e w2 ⟨v2, rfl, hO2, hx2⟩
  obtain ⟨Ac, cc, Bc, dc, rfl, -, -, ⟨hcc1, hcc2⟩, hdd1, hdd2⟩ := hO2.split
  obtain ⟨w3, hw3⟩ : ∃ W, w2.alloc (.cells #[.slice Ac D.length cc, .slice Bc L.length dc] 26) = W := ⟨_, rfl⟩
  have hx3 : Ext w2 w3 := by rw [← hw3]; exact Ext.alloc _ _
  have hb3 := heap_alloc_new w2 (.cells #[.slice Ac D.length cc, .slice Bc L.length dc] 26)
  rw [hw3] at hb3
  have HO3 := Lib.hid (And.intro (hO2.low (b' := w.heap.size) H01.out.2.size) (And.intro hx2 (And.intro hx3 hb3)))
  clear hO2 hx2 hx3 hb3 p0 p1
  go_wp2_with fail
  refine (HRD.out _).mono ?_
  rintro e w4 ⟨v4, rfl, hLf, -, hx4⟩
  obtain ⟨A4, c4, rfl, -⟩ := hLf.ints
  obtain ⟨w5, hw5⟩ : ∃ W, w4.alloc (.cells #[.int .i64 0, .slice A4 (rx none).length c4] 54) = W := ⟨_, rfl⟩
  have hx5 : Ext w4 w5 := by rw [← hw5]; exact Ext.alloc _ _
  have hx25 : Ext w2 w5 := HO3.out.2.2.1.trans (hx4.trans hx5)
  have hx15 : Ext w1 w5 := HO3.out.2.1.trans hx25
  have HX := Lib.hid (H01.out.2.trans hx15)
  have HQ := Lib.hid (fun W (q : Ext w5 W) => And.intro (HB0.out W (H01.out.1.trans (hx15.trans q))).1 (And.intro (HB0.out W (H01.out.1.trans (hx15.trans q))).2.1 (And.intro (((hx4.trans (hx5.trans q)).block (heap_lt HO3.out.2.2.2)).trans HO3.out.2.2.2) (HO3.out.1.keep (KeepB.of_ext (hx25.trans q))))))
  obtain ⟨q2, q4, q6, -⟩ := HQ.out w5 (Ext.refl _)
  obtain ⟨a0, a1⟩ := two_cells q2
  obtain ⟨g0, g1⟩ := two_cells q6
  have hrk : rk none = 0 := rfl
  have hm4 : w.heap.size ≤ w.heap.size + 1 := Nat.le_succ _
  clear q2 q4 q6 hLf hx4 hx5 hx25 hx15 HO3 H01 HRD HCP HDK
  by_cases h0 : xs = []
  · have HE := Lib.hid (HNE.out h0)
    have hl0 : ((xs.length : Int) == 0) = true := by rw [h0]; rfl
    clear h0
    go_wp2_with fail
    refine (HST.out _ HX.out).mono ?_
    rintro e w6 ⟨v6, rfl, hL6, -, hx6⟩
    obtain ⟨A6, c6, rfl, -⟩ := hL6.ints
    clear hL6
    obtain ⟨q2, q4, q6, qO⟩ := HQ.out w6 hx6
    obtain ⟨aa0, aa1⟩ := two_cells q2
    obtain ⟨gg0, gg1⟩ := two_cells q6
    obtain ⟨t1, t2, t3, t4, t5, t6, -⟩ := keepB_set2 (b := 0) q4 (.slice Ac D.length cc) (.slice Bc L.length dc)
    go_wp2_with fail
    refine bodyPost_ret (v := .tuple #[.agg #[.slice Ac D.length cc, .slice Bc L.length dc], tx ([110, 111, 110, 101])]) (by simp [results, Tryz.results22, go_sem, t5, t6, tx]) rfl ?_
    rw [HE.out]
    exact lnS_fin q4 hm4 (HX.out.trans hx6) qO

  · have HE := Lib.hid (HYE.out h0)
    have hl0 : ((xs.length : Int) == 0) = false := beq_eq_false_iff_ne.2 (fun e => h0 (List.eq_nil_of_length_eq_zero (by omega)))
    clear h0
    go_wp2_with fail
    refine (HST.out _ HX.out).mono ?_
    rintro e w9 ⟨v9, rfl, hL9, -, hx9⟩
    obtain ⟨A9, c9, rfl, -⟩ := hL9.ints
    have HRW := Lib.hid hx9
    clear a0 a1 g0 g1
    obtain ⟨q2', -, q6', -⟩ := HQ.out w9 hx9
    obtain ⟨a0, a1⟩ := two_cells q2'
    obtain ⟨g0, g1⟩ := two_cells q6'
    clear q2' q6'

    clear hL9 hx9
    go_wp2_with fail
    go_region_law (go_simp; first | (go_at_call 43; (fail_if_success (have q := hx7)); have qq := hr6; clear qq; refine (HN.out _ _ _ hI6).mono ?_; rintro e w7 ⟨rfl, hx7⟩; have hr7 : Ext w9 w7 := hr6.trans hx7; obtain ⟨q2, q4, q6, qO⟩ := HQ.out w7 (HRW.out.trans hr7); obtain ⟨aa0, aa1⟩ := two_cells q2; obtain ⟨gg0, gg1⟩ := two_cells q6; obtain ⟨t1, t2, t3, t4, t5, t6, -⟩ := keepB_set2 (b := 0) q4 (.slice Ac D.length cc) (.slice Bc L.length dc); unfold tx) | (go_at_call 45; (fail_if_success (have q := hx6)); refine (HST.out _ (by repeat (first | exact HX.out.trans HRW.out | apply Ext.alloc' | apply Ext.drew'))).mono ?_; rintro e w6 ⟨v6, rfl, hL6, -, hx6⟩; obtain ⟨A6, c6, rfl, hI6⟩ := hL6.ints; clear hL6; have hr6 : Ext w9 w6 := Ext.trans (by repeat (first | exact Ext.refl _ | apply Ext.alloc' | apply Ext.drew')) hx6; obtain ⟨q2, q4, q6, qO⟩ := HQ.out w6 (HRW.out.trans hr6); obtain ⟨aa0, aa1⟩ := two_cells q2; obtain ⟨gg0, gg1⟩ := two_cells q6; obtain ⟨t1, t2, t3, t4, t5, t6, -⟩ := keepB_set2 (b := 0) q4 (.slice Ac D.length cc) (.slice Bc L.length dc)))
    all_goals
      go_wp2_with fail
      refine bodyPost_ret (v := .tuple #[.agg #[.slice Ac D.length cc, .slice Bc L.length dc], tx (TT)]) (by simp [results, Tryz.results22, go_sem, t5, t6, tx]) rfl ?_
      rw [HE.out]
      exact lnS_fin q4 hm4 (HX.out.trans (HRW.out.trans hr7)) qO
end Go.Proofs.YtnalcgcdohlfiaaGreatDoor
namespace Go.Proofs.YtnalcgcdohlfiaaGreatDoor
open Go.RowKit
/-- the words of splits, one by one -/
def splU (S : List (List Int)) : Nat → List UInt8
  | 0 => []
  | i + 1 => (if 0 < i then splU S i ++ [44] else splU S i) ++ wordT (row S i)
theorem splU_all (S : List (List Int)) : splU S S.length = splT S := by
  have key : ∀ n, n ≤ S.length → splU S n = Lib.join ((S.take n).map wordT) [44] := by
    intro n
    induction n with
    | zero => intro _; rfl
    | succ n ih =>
      intro h
      have e : S.take (n + 1) = S.take n ++ [row S n] := by rw [List.take_succ_eq_append_getElem (by omega), row_of (by omega)]
      show (if 0 < n then splU S n ++ [44] else splU S n) ++ _ = _
      rw [ih (by omega), e, List.map_append]
      cases n with
      | zero => simp [Lib.join, List.intercalate]
      | succ m =>
        obtain ⟨y, ys, hy⟩ : ∃ y ys, (S.take (m + 1)).map wordT = y :: ys := by
          cases hq : (S.take (m + 1)).map wordT with
          | nil =>
            have e3 : ((S.take (m + 1)).map wordT).length = m + 1 := by rw [List.length_map, List.length_take]; omega
            rw [hq] at e3
            simp at e3
          | cons y ys => exact ⟨y, ys, rfl⟩
        rw [hy, if_pos (by omega)]
        show Lib.join (y :: ys) [44] ++ [44] ++ _ = Lib.join (y :: ys ++ [_]) [44]
        rw [List.cons_append, Lib.join_cons, Lib.join_cons]
        simp [Lib.joinTail]
  have := key S.length (Nat.le_refl _)
  rw [List.take_length] at this
  exact this
theorem splU_len {S : List (List Int)} (h : Lots S) : ∀ n, n ≤ S.length → (splU S n).length ≤ 8 * n
  | 0, _ => by simp [splU]
  | n + 1, hn => by
    have h1 := splU_len h n (by omega)
    have h2 := lots_word h (show n < S.length by omega)
    show ((if 0 < n then splU S n ++ [44] else splU S n) ++ _).length ≤ _
    rw [List.length_append]
    split <;> (try rw [List.length_append, List.length_singleton]) <;> omega
theorem l1Number_s (x : Int) (h : 0 ≤ x ∧ x < 1000) (w : World) : Calls Tryz.prog 29 #[.int .i64 x] w fun e w' => e = .returned (.string ⟨(dg x).toArray⟩) ∧ Ext w w' := l1Number_z x h w
set_option maxRecDepth 100000 in
set_option maxHeartbeats 8000000 in
theorem sLine_splits (A B : Option Addr) (c d : Nat) (D : List (List Int)) (L : List (List (List Int))) (w : World) (h1 : Mat w A c D) (h2 : MatS w B d L) (hd : deskB D L = true) :
    Calls Tryz.prog 22 #[.agg #[.slice A D.length c, .slice B L.length d], .string ⟨#[115, 112, 108, 105, 116, 115]⟩] w (LnS w D L (orN (splT (splD D)))) := by
  have hs := (deskB_parts hd).1
  obtain ⟨n1, n6⟩ := spB_len hs
  have hm1 := h1.1
  have hm2 := h1.2.1
  unfold maxLen at hm2
  have HDK := Lib.hid (fun W (q : Ext w W) => sDeskOk_any A B c d D L W (h1.ext q) (h2.ext q))
  rw [hd] at HDK
  have HCP := Lib.hid (fun W (q : Ext w W) => l11Copy_any A B c d D L W (h1.ext q) (h2.ext q) (deskB_sm hd))
  have HRD := Lib.hid (fun W => sReadDeed_any [115, 112, 108, 105, 116, 115] W (by simp))
  rw [show rdS [115, 112, 108, 105, 116, 115] = none by decide +kernel] at HRD
  have hb0 := fun W (q : Ext ((w.alloc (.cells #[.slice A D.length c, .slice B L.length d] 26)).alloc (.cells #[.slice none 0 0, .slice none 0 0] 26)) W) => two_blocks q
  have HB0 := Lib.hid hb0
  have HXT := Lib.hid (show Ext w ((w.alloc (.cells #[.slice A D.length c, .slice B L.length d] 26)).alloc (.cells #[.slice none 0 0, .slice none 0 0] 26)) from (Ext.alloc _ _).alloc' _)
  have HSP := Lib.hid (fun W (q : Ext w W) => sSplits2_any A c D W (h1.ext q))
  have hv : splV D = splD D := if_pos hs
  have hlt := splD_lots hs
  rw [hv] at HSP
  obtain ⟨S, hS⟩ : ∃ S, splD D = S := ⟨_, rfl⟩
  rw [hS] at HSP hlt ⊢
  have HLT := Lib.hid hlt
  have hl32 := hlt.1
  clear hv hS hlt
  clear h1 h2 hd hs hb0
  go_enter Tryz.func22, Tryz.ntmps22
  go_wp2_with fail
  refine (HDK.out _ HXT.out).mono ?_
  rintro e w1 ⟨rfl, hx1⟩
  obtain ⟨b0, b1, hx, -⟩ := HB0.out w1 hx1
  obtain ⟨p0, p1⟩ := two_cells b0
  have H01 := Lib.hid (And.intro hx1 hx)
  clear b0 b1 hx1 hx
  go_wp2_with fail
  refine (HCP.out _ H01.out.2).mono ?_
  rintro e w2 ⟨v2, rfl, hO2, hx2⟩
  obtain ⟨Ac, cc, Bc, dc, rfl, -, -, ⟨hcc1, hcc2⟩, hdd1, hdd2⟩ := hO2.split
  obtain ⟨w3, hw3⟩ : ∃ W, w2.alloc (.cells #[.slice Ac D.length cc, .slice Bc L.length dc] 26) = W := ⟨_, rfl⟩
  have hx3 : Ext w2 w3 := by rw [← hw3]; exact Ext.alloc _ _
  have hb3 := heap_alloc_new w2 (.cells #[.slice Ac D.length cc, .slice Bc L.length dc] 26)
  rw [hw3] at hb3
  have HO3 := Lib.hid (And.intro (hO2.low (b' := w.heap.size) H01.out.2.size) (And.intro hx2 (And.intro hx3 hb3)))
  clear hO2 hx2 hx3 hb3 p0 p1
  go_wp2_with fail
  refine (HRD.out _).mono ?_
  rintro e w4 ⟨v4, rfl, hLf, -, hx4⟩
  obtain ⟨A4, c4, rfl, -⟩ := hLf.ints
  obtain ⟨w5, hw5⟩ : ∃ W, w4.alloc (.cells #[.int .i64 0, .slice A4 (rx none).length c4] 54) = W := ⟨_, rfl⟩
  have hx5 : Ext w4 w5 := by rw [← hw5]; exact Ext.alloc _ _
  have hx25 : Ext w2 w5 := HO3.out.2.2.1.trans (hx4.trans hx5)
  have hx15 : Ext w1 w5 := HO3.out.2.1.trans hx25
  have HX := Lib.hid (H01.out.2.trans hx15)
  have HQ := Lib.hid (fun W (q : Ext w5 W) => And.intro (HB0.out W (H01.out.1.trans (hx15.trans q))).1 (And.intro (HB0.out W (H01.out.1.trans (hx15.trans q))).2.1 (And.intro (((hx4.trans (hx5.trans q)).block (heap_lt HO3.out.2.2.2)).trans HO3.out.2.2.2) (HO3.out.1.keep (KeepB.of_ext (hx25.trans q))))))
  obtain ⟨q2, q4, q6, -⟩ := HQ.out w5 (Ext.refl _)
  obtain ⟨a0, a1⟩ := two_cells q2
  obtain ⟨g0, g1⟩ := two_cells q6
  have hrk : rk none = 0 := rfl
  have hm4 : w.heap.size ≤ w.heap.size + 1 := Nat.le_succ _
  clear q2 q4 q6 hLf hx4 hx5 hx25 hx15 HO3 H01 HRD HCP HDK
  go_wp2_with fail
  refine (HSP.out _ HX.out).mono ?_
  rintro e w6 ⟨A6, c6, V6, rfl, hL6, -, -, hx6⟩
  have hc61 := hL6.1
  have hc62 := hL6.2.1
  unfold maxLen at hc62
  have HM6 := Lib.hid (fun W (q : Ext w6 W) => hL6.mat.ext q)
  have HX6 := Lib.hid hx6
  clear hL6 hx6 a0 a1 g0 g1
  go_wp2_with fail
  go_loopg [17, 18] S.length (fun g s17 s18 wr => ∃ (i : Nat), i + g = S.length ∧ s18 = .int .i64 i ∧ s17 = tx (splU S i) ∧ Hid (Ext w6 wr))
  case atStart => exact ⟨0, by omega, rfl, rfl, Lib.hid (Ext.refl _)⟩
  case round =>
    obtain ⟨i, hi, rfl, rfl, HW⟩ := hrel
    by_cases hin : i < S.length
    · obtain ⟨k1, rfl⟩ : ∃ g', gk = g' + 1 := ⟨gk - 1, by omega⟩
      have hin' : (i : Int) < (S.length : Nat) := by omega
      obtain ⟨b, o, rc, rb, ro, hA, hrow, hcell⟩ := lots_cells (HM6.out wr HW.out) HLT.out
      obtain rfl := hA (by omega)
      obtain ⟨-, hx0, hx1⟩ := HLT.out.2 i hin
      have hwt : wordT (row S i) = dg (at2 S i 0) ++ 58 :: dg (at2 S i 1) := rfl
      have hr0 := hrow i hin
      obtain ⟨hc0, hc1⟩ := hcell i hin
      obtain ⟨x, hx⟩ : ∃ x, at2 S i 0 = x := ⟨_, rfl⟩
      obtain ⟨y, hy⟩ : ∃ x, at2 S i 1 = x := ⟨_, rfl⟩
      rw [hx] at hc0 hx0 hwt
      rw [hy] at hc1 hx1 hwt
      have z0 : ∀ t : EW wr, t.to.cell? _ = _ := fun t => t.ok.cell hr0
      have z1 : ∀ t : EW wr, t.to.cell? _ = _ := fun t => t.ok.cell hc0
      have z2 : ∀ t : EW wr, t.to.cell? _ = _ := fun t => t.ok.cell hc1
      have hP3 := dg_len hx0
      have hQ3 := dg_len hx1
      have hul := splU_len HLT.out i (by omega)
      obtain ⟨P, hP⟩ : ∃ P, dg x = P := ⟨_, rfl⟩
      obtain ⟨Q, hQ⟩ : ∃ P, dg y = P := ⟨_, rfl⟩
      obtain ⟨R0, hR0⟩ : ∃ P, splU S i = P := ⟨_, rfl⟩
      rw [hP] at hP3 hwt
      rw [hQ] at hQ3 hwt
      rw [hR0] at hul ⊢
      unfold tx
      clear hA hrow hcell hr0 hc0 hc1 hx hy
      by_cases h0 : 0 < i
      · have h0' : (0 : Int) < (i : Nat) := by omega
        obtain ⟨R1, hR1⟩ : ∃ r, R0 ++ [44] = r := ⟨_, rfl⟩
        have e1 : ((⟨R0.toArray⟩ : ByteArray) ++ ⟨#[44]⟩) = ⟨R1.toArray⟩ := by rw [← hR1]; exact tx_add R0 [44]
        have hl1 : R1.length = R0.length + 1 := by rw [← hR1, List.length_append]; rfl
        have nl0 : ¬ 9223372036854775807 < R0.length + 1 := by omega
        obtain ⟨R2, hR2⟩ : ∃ r, R1 ++ P = r := ⟨_, rfl⟩
        obtain ⟨R3, hR3⟩ : ∃ r, R2 ++ [58] = r := ⟨_, rfl⟩
        obtain ⟨R4, hR4⟩ : ∃ r, R3 ++ Q = r := ⟨_, rfl⟩
        have e2 : ((⟨R1.toArray⟩ : ByteArray) ++ ⟨P.toArray⟩) = ⟨R2.toArray⟩ := by rw [← hR2]; exact tx_add R1 P
        have e3 : ((⟨R2.toArray⟩ : ByteArray) ++ ⟨#[58]⟩) = ⟨R3.toArray⟩ := by rw [← hR3]; exact tx_add R2 [58]
        have e4 : ((⟨R3.toArray⟩ : ByteArray) ++ ⟨Q.toArray⟩) = ⟨R4.toArray⟩ := by rw [← hR4]; exact tx_add R3 Q
        have hl2 : R2.length ≤ R0.length + 4 := by rw [← hR2, List.length_append]; omega
        have hl3 : R3.length ≤ R0.length + 5 := by rw [← hR3, List.length_append, List.length_singleton]; omega
        have nl1 : ¬ 9223372036854775807 < R1.length + P.length := by omega
        have nl2 : ¬ 9223372036854775807 < R2.length + 1 := by omega
        have nl3 : ¬ 9223372036854775807 < R3.length + Q.length := by omega
        have HS := Lib.hid (show splU S (i + 1) = R4 by
          show (if 0 < i then splU S i ++ [44] else splU S i) ++ wordT (row S i) = R4
          rw [if_pos h0, hwt, hR0, ← hR4, ← hR3, ← hR2, ← hR1]
          simp)
        clear hwt hR0 hR2 hR3 hR4 hR1 hl1
        have hP' : (⟨(dg x).toArray⟩ : ByteArray) = ⟨P.toArray⟩ := by rw [hP]
        have hQ' : (⟨(dg y).toArray⟩ : ByteArray) = ⟨Q.toArray⟩ := by rw [hQ]
        go_wp2_with fail
        refine wp_region_quiet_ext (by kernel_rfl) (by kernel_rfl) ?_
        repeat (go_big_quiet_step (((go_at_call 29; exact Calls.ew_of (l1Number_s _ (by first | exact hx0 | exact hx1) _)))))
        refine wpQuiet_nil ?_
        intro _ hw'
        obtain ⟨⟨wq, hq⟩, hw''⟩ := hw'
        subst hw''
        go_wp2_with fail
        go_roundg k1
        case measure => omega
        case rel => exact ⟨i + 1, by omega, by go_num, by first | (rw [HS.out]; rfl) | (rw [HS.out, hP, hQ]; rfl), Lib.hid (HW.out.trans hq)⟩
      · have h0' : ¬ (0 : Int) < (i : Nat) := by omega
        obtain ⟨R2, hR2⟩ : ∃ r, R0 ++ P = r := ⟨_, rfl⟩
        obtain ⟨R3, hR3⟩ : ∃ r, R2 ++ [58] = r := ⟨_, rfl⟩
        obtain ⟨R4, hR4⟩ : ∃ r, R3 ++ Q = r := ⟨_, rfl⟩
        have e2 : ((⟨R0.toArray⟩ : ByteArray) ++ ⟨P.toArray⟩) = ⟨R2.toArray⟩ := by rw [← hR2]; exact tx_add R0 P
        have e3 : ((⟨R2.toArray⟩ : ByteArray) ++ ⟨#[58]⟩) = ⟨R3.toArray⟩ := by rw [← hR3]; exact tx_add R2 [58]
        have e4 : ((⟨R3.toArray⟩ : ByteArray) ++ ⟨Q.toArray⟩) = ⟨R4.toArray⟩ := by rw [← hR4]; exact tx_add R3 Q
        have hl2 : R2.length ≤ R0.length + 4 := by rw [← hR2, List.length_append]; omega
        have hl3 : R3.length ≤ R0.length + 5 := by rw [← hR3, List.length_append, List.length_singleton]; omega
        have nl1 : ¬ 9223372036854775807 < R0.length + P.length := by omega
        have nl2 : ¬ 9223372036854775807 < R2.length + 1 := by omega
        have nl3 : ¬ 9223372036854775807 < R3.length + Q.length := by omega
        have HS := Lib.hid (show splU S (i + 1) = R4 by
          show (if 0 < i then splU S i ++ [44] else splU S i) ++ wordT (row S i) = R4
          rw [if_neg h0, hwt, hR0, ← hR4, ← hR3, ← hR2]
          simp)
        clear hwt hR0 hR2 hR3 hR4
        have hP' : (⟨(dg x).toArray⟩ : ByteArray) = ⟨P.toArray⟩ := by rw [hP]
        have hQ' : (⟨(dg y).toArray⟩ : ByteArray) = ⟨Q.toArray⟩ := by rw [hQ]
        go_wp2_with fail
        refine wp_region_quiet_ext (by kernel_rfl) (by kernel_rfl) ?_
        repeat (go_big_quiet_step (((go_at_call 29; exact Calls.ew_of (l1Number_s _ (by first | exact hx0 | exact hx1) _)))))
        refine wpQuiet_nil ?_
        intro _ hw'
        obtain ⟨⟨wq, hq⟩, hw''⟩ := hw'
        subst hw''
        go_wp2_with fail
        go_roundg k1
        case measure => omega
        case rel => exact ⟨i + 1, by omega, by go_num, by first | (rw [HS.out]; rfl) | (rw [HS.out, hP, hQ]; rfl), Lib.hid (HW.out.trans hq)⟩
    · have hin' : ¬ (i : Int) < (S.length : Nat) := by omega
      obtain rfl : i = S.length := by omega
      have hua := splU_all S
      obtain ⟨U, hU⟩ : ∃ U, splU S S.length = U := ⟨_, rfl⟩
      rw [hU] at hua ⊢
      have HUA := Lib.hid hua
      obtain ⟨wq, hwq⟩ : ∃ W, W = wr := ⟨_, rfl⟩
      subst hwq
      have hr7 : Ext w5 wq := HX6.out.trans HW.out
      obtain ⟨q2', -, q6', -⟩ := HQ.out wq hr7
      obtain ⟨a0, a1⟩ := two_cells q2'
      obtain ⟨g0, g1⟩ := two_cells q6'
      clear q2' q6'
      obtain ⟨q2, q4, q6, qO⟩ := HQ.out wq hr7
      obtain ⟨aa0, aa1⟩ := two_cells q2
      obtain ⟨gg0, gg1⟩ := two_cells q6
      obtain ⟨t1, t2, t3, t4, t5, t6, -⟩ := keepB_set2 (b := 0) q4 (.slice Ac D.length cc) (.slice Bc L.length dc)

      unfold tx
      clear hua hU
      by_cases h0 : U = []
      · have HE := Lib.hid (show orN (splT S) = [110, 111, 110, 101] by rw [← HUA.out]; exact if_pos h0)
        have he : U.isEmpty = true := by rw [h0]; rfl
        clear h0
        go_wp2_with fail
        refine bodyPost_ret (v := .tuple #[.agg #[.slice Ac D.length cc, .slice Bc L.length dc], tx ([110, 111, 110, 101])]) (by simp [results, Tryz.results22, go_sem, t5, t6, tx]) rfl ?_
        rw [HE.out]
        exact lnS_fin q4 hm4 (HX.out.trans hr7) qO

      · have HE := Lib.hid (show orN (splT S) = U by rw [← HUA.out]; exact if_neg h0)
        have he : U.isEmpty = false := by
          cases U with
          | nil => exact absurd rfl h0
          | cons a l => rfl
        clear h0
        go_wp2_with fail
        refine bodyPost_ret (v := .tuple #[.agg #[.slice Ac D.length cc, .slice Bc L.length dc], tx (U)]) (by simp [results, Tryz.results22, go_sem, t5, t6, tx]) rfl ?_
        rw [HE.out]
        exact lnS_fin q4 hm4 (HX.out.trans hr7) qO
set_option maxRecDepth 100000 in
set_option maxHeartbeats 8000000 in
theorem sLine_two (A B : Option Addr) (c d : Nat) (D : List (List Int)) (L : List (List (List Int))) (T : List UInt8) (w : World) (h1 : Mat w A c D) (h2 : MatS w B d L) (hd : deskB D L = true) (hq : NotQ T) (hl : T.length ≤ 1048576) (hrd : rdS T = none) :
    Calls Tryz.prog 22 #[.agg #[.slice A D.length c, .slice B L.length d], .string ⟨T.toArray⟩] w (LnS w D L (twoS D T)) := by
  have hs := (deskB_parts hd).1
  obtain ⟨n1, n6⟩ := spB_len hs
  have hm1 := h1.1
  have hm2 := h1.2.1
  unfold maxLen at hm2
  have HDK := Lib.hid (fun W (q : Ext w W) => sDeskOk_any A B c d D L W (h1.ext q) (h2.ext q))
  rw [hd] at HDK
  have HCP := Lib.hid (fun W (q : Ext w W) => l11Copy_any A B c d D L W (h1.ext q) (h2.ext q) (deskB_sm hd))
  have HRD := Lib.hid (fun W => sReadDeed_any T W hl)
  rw [hrd] at HRD
  have hb0 := fun W (q : Ext ((w.alloc (.cells #[.slice A D.length c, .slice B L.length d] 26)).alloc (.cells #[.slice none 0 0, .slice none 0 0] 26)) W) => two_blocks q
  have HB0 := Lib.hid hb0
  have HXT := Lib.hid (show Ext w ((w.alloc (.cells #[.slice A D.length c, .slice B L.length d] 26)).alloc (.cells #[.slice none 0 0, .slice none 0 0] 26)) from (Ext.alloc _ _).alloc' _)
  obtain ⟨q1, q2, q3, q4, q5, q6, q7⟩ := hq
  have b1 := ne_b q1
  have b2 := ne_b q2
  have b3 := ne_b q3
  have b4 := ne_b q4
  have b5 := ne_b q5
  have b6 := ne_b q6
  have b7 := ne_b q7
  unfold qPoints at b1
  unfold qWide at b2
  unfold qRadius at b3
  unfold qGap at b4
  unfold qMedians at b5
  unfold qSteps at b6
  unfold qSplits at b7
  clear q1 q2 q3 q4 q5 q6 q7 hrd
  have HAK := Lib.hid (fun (Aw : Option Addr) (cw : Nat) (P Q : List UInt8) W (q : Ext w W) (k : Txts W Aw cw [P, Q]) (hQ : Q.length ≤ 1048576) => l11Ask_any A c D Aw cw P Q W (h1.ext q) hs k hQ)
  have HCU := Lib.hid (fun W => l1Cut_z T 32 32 rfl W hl)
  have HPL := Lib.hid (piece_len 32 T)
  have HTW := Lib.hid (show twoS D T = if (pieces 32 T).length = 2 then l11V D ((pieces 32 T).getD 0 []) ((pieces 32 T).getD 1 []) else askWhat from rfl)
  obtain ⟨ps, hps⟩ : ∃ p, pieces 32 T = p := ⟨_, rfl⟩
  rw [hps] at HCU HPL HTW
  clear hps
  clear h1 h2 hd hs hb0
  go_enter Tryz.func22, Tryz.ntmps22
  go_wp2_with fail
  refine (HDK.out _ HXT.out).mono ?_
  rintro e w1 ⟨rfl, hx1⟩
  obtain ⟨b0, b1, hx, -⟩ := HB0.out w1 hx1
  obtain ⟨p0, p1⟩ := two_cells b0
  have H01 := Lib.hid (And.intro hx1 hx)
  clear b0 b1 hx1 hx
  go_wp2_with fail
  refine (HCP.out _ H01.out.2).mono ?_
  rintro e w2 ⟨v2, rfl, hO2, hx2⟩
  obtain ⟨Ac, cc, Bc, dc, rfl, -, -, ⟨hcc1, hcc2⟩, hdd1, hdd2⟩ := hO2.split
  obtain ⟨w3, hw3⟩ : ∃ W, w2.alloc (.cells #[.slice Ac D.length cc, .slice Bc L.length dc] 26) = W := ⟨_, rfl⟩
  have hx3 : Ext w2 w3 := by rw [← hw3]; exact Ext.alloc _ _
  have hb3 := heap_alloc_new w2 (.cells #[.slice Ac D.length cc, .slice Bc L.length dc] 26)
  rw [hw3] at hb3
  have HO3 := Lib.hid (And.intro (hO2.low (b' := w.heap.size) H01.out.2.size) (And.intro hx2 (And.intro hx3 hb3)))
  clear hO2 hx2 hx3 hb3 p0 p1
  go_wp2_with fail
  refine (HRD.out _).mono ?_
  rintro e w4 ⟨v4, rfl, hLf, -, hx4⟩
  obtain ⟨A4, c4, rfl, -⟩ := hLf.ints
  obtain ⟨w5, hw5⟩ : ∃ W, w4.alloc (.cells #[.int .i64 0, .slice A4 (rx none).length c4] 54) = W := ⟨_, rfl⟩
  have hx5 : Ext w4 w5 := by rw [← hw5]; exact Ext.alloc _ _
  have hx25 : Ext w2 w5 := HO3.out.2.2.1.trans (hx4.trans hx5)
  have hx15 : Ext w1 w5 := HO3.out.2.1.trans hx25
  have HX := Lib.hid (H01.out.2.trans hx15)
  have HQ := Lib.hid (fun W (q : Ext w5 W) => And.intro (HB0.out W (H01.out.1.trans (hx15.trans q))).1 (And.intro (HB0.out W (H01.out.1.trans (hx15.trans q))).2.1 (And.intro (((hx4.trans (hx5.trans q)).block (heap_lt HO3.out.2.2.2)).trans HO3.out.2.2.2) (HO3.out.1.keep (KeepB.of_ext (hx25.trans q))))))
  obtain ⟨q2, q4, q6, -⟩ := HQ.out w5 (Ext.refl _)
  obtain ⟨a0, a1⟩ := two_cells q2
  obtain ⟨g0, g1⟩ := two_cells q6
  have hrk : rk none = 0 := rfl
  have hm4 : w.heap.size ≤ w.heap.size + 1 := Nat.le_succ _
  clear q2 q4 q6 hLf hx4 hx5 hx25 hx15 HO3 H01 HRD HCP HDK
  go_wp2_with fail
  refine (HCU.out _).mono ?_
  rintro e w9 ⟨A9, c9, rfl, hT9, hN9, hx9⟩
  have HRW := Lib.hid hx9
  have hc91 := hT9.1
  have hc92 := hT9.2.1
  unfold maxLen at hc92
  have HT9 := Lib.hid (fun W (q : Ext w9 W) => hT9.ext q)
  clear a0 a1 g0 g1
  obtain ⟨q2', -, q6', -⟩ := HQ.out w9 hx9
  obtain ⟨a0, a1⟩ := two_cells q2'
  obtain ⟨g0, g1⟩ := two_cells q6'
  clear q2' q6'
  obtain ⟨q2, q4, q6, qO⟩ := HQ.out w9 hx9
  obtain ⟨aa0, aa1⟩ := two_cells q2
  obtain ⟨gg0, gg1⟩ := two_cells q6
  obtain ⟨t1, t2, t3, t4, t5, t6, -⟩ := keepB_set2 (b := 0) q4 (.slice Ac D.length cc) (.slice Bc L.length dc)
  clear hx9 hT9
  by_cases h2 : ps.length = 2
  · obtain ⟨P, Q, rfl⟩ : ∃ p q, ps = [p, q] := by
      match ps, h2 with
      | [p, q], _ => exact ⟨p, q, rfl⟩
    have hQ6 : Q.length ≤ 1048576 := Nat.le_trans (HPL.out Q (List.mem_cons_of_mem _ List.mem_cons_self)) hl
    have HE := Lib.hid (show twoS D T = l11V D P Q from HTW.out)
    have HA2 := Lib.hid (fun W (q : Ext w9 W) => HAK.out A9 c9 P Q W (HX.out.trans (HRW.out.trans q)) (HT9.out W q) hQ6)
    clear h2 HPL HTW HT9 HAK HCU q2 q4 q6 qO aa0 aa1 gg0 gg1 t1 t2 t3 t4 t5 t6
    go_wp2_with fail
    go_region_law (go_simp; (go_at_call 48; refine (HA2.out _ (by repeat (first | exact Ext.refl _ | apply Ext.alloc' | apply Ext.drew'))).mono ?_; rintro e w7 ⟨rfl, hx7⟩; have hr7 : Ext w9 w7 := Ext.trans (by repeat (first | exact Ext.refl _ | apply Ext.alloc' | apply Ext.drew')) hx7; obtain ⟨q2, q4, q6, qO⟩ := HQ.out w7 (HRW.out.trans hr7); obtain ⟨aa0, aa1⟩ := two_cells q2; obtain ⟨gg0, gg1⟩ := two_cells q6; obtain ⟨t1, t2, t3, t4, t5, t6, -⟩ := keepB_set2 (b := 0) q4 (.slice Ac D.length cc) (.slice Bc L.length dc); unfold tx))
    all_goals
      go_wp2_with fail
      refine bodyPost_ret (v := .tuple #[.agg #[.slice Ac D.length cc, .slice Bc L.length dc], tx (l11V D P Q)]) (by simp [results, Tryz.results22, go_sem, t5, t6, tx]) rfl ?_
      rw [HE.out]
      exact lnS_fin q4 hm4 (HX.out.trans (HRW.out.trans hr7)) qO

  · have HE := Lib.hid (show twoS D T = [119, 104, 97, 116] by rw [HTW.out, if_neg h2]; rfl)
    have h2' : ((ps.length : Int) == 2) = false := beq_eq_false_iff_ne.2 (by omega)
    clear h2 HPL HTW HT9 HAK HCU
    go_wp2_with fail
    refine bodyPost_ret (v := .tuple #[.agg #[.slice Ac D.length cc, .slice Bc L.length dc], tx ([119, 104, 97, 116])]) (by simp [results, Tryz.results22, go_sem, t5, t6, tx]) rfl ?_
    rw [HE.out]
    exact lnS_fin q4 hm4 (HX.out.trans HRW.out) qO
end Go.Proofs.YtnalcgcdohlfiaaGreatDoor
namespace Go.Proofs.YtnalcgcdohlfiaaGreatDoor
open Go.RowKit
theorem zero_ln_s {w w' : World} {T : List UInt8} (hx : Ext w w') : LnS w [] [] T (.returned (.tuple #[.agg #[.slice none 0 0, .slice none 0 0], tx T])) w' :=
  OwnDk.ln_s (A := none) (B := none) (c := 0) (d := 0) (D := []) (L := []) (zero_desk' _ _) hx
set_option maxRecDepth 100000 in
set_option maxHeartbeats 8000000 in
theorem sLine_bad (A B : Option Addr) (c d : Nat) (D : List (List Int)) (L : List (List (List Int))) (T : List UInt8) (w : World) (h1 : Mat w A c D) (h2 : MatS w B d L) (hd : deskB D L = false) :
    Calls Tryz.prog 22 #[.agg #[.slice A D.length c, .slice B L.length d], .string ⟨T.toArray⟩] w (LnS w [] [] []) := by
  have HDK := Lib.hid (fun W (q : Ext w W) => sDeskOk_any A B c d D L W (h1.ext q) (h2.ext q))
  rw [hd] at HDK
  have hb0 := fun W (q : Ext ((w.alloc (.cells #[.slice A D.length c, .slice B L.length d] 26)).alloc (.cells #[.slice none 0 0, .slice none 0 0] 26)) W) => two_blocks q
  have HB0 := Lib.hid hb0
  have HXT := Lib.hid (show Ext w ((w.alloc (.cells #[.slice A D.length c, .slice B L.length d] 26)).alloc (.cells #[.slice none 0 0, .slice none 0 0] 26)) from (Ext.alloc _ _).alloc' _)
  clear h1 h2 hd hb0
  go_enter Tryz.func22, Tryz.ntmps22
  go_wp2_with fail
  refine (HDK.out _ HXT.out).mono ?_
  rintro e w1 ⟨rfl, hx1⟩
  obtain ⟨b0, b1, hx, -⟩ := HB0.out w1 hx1
  obtain ⟨t1, t2, t3, t4, t5, t6, -⟩ := keepB_set2 (b := 0) b1 (.slice none 0 0) (.slice none 0 0)
  have HX := Lib.hid hx
  clear b0 b1 hx hx1
  go_wp2_with fail
  refine bodyPost_ret (v := .tuple #[.agg #[.slice none 0 0, .slice none 0 0], tx []]) (by simp [results, Tryz.results22, go_sem, t5, t6, tx]) rfl ?_
  exact zero_ln_s ((HX.out.setCell' (p := ⟨w.heap.size + 1, 0, none⟩) (by show w.heap.size ≤ w.heap.size + 1; omega) _).setCell' (p := ⟨w.heap.size + 1, 1, none⟩) (by show w.heap.size ≤ w.heap.size + 1; omega) _)
set_option maxRecDepth 100000 in
set_option maxHeartbeats 8000000 in
theorem sLine_deed (A B : Option Addr) (c d : Nat) (D : List (List Int)) (L : List (List (List Int))) (T R : List UInt8) (p : Int × List Int) (w : World) (h1 : Mat w A c D) (h2 : MatS w B d L) (hd : deskB D L = true) (hl : T.length ≤ 1048576) (hrd : rdS T = some p) :
    Calls Tryz.prog 22 #[.agg #[.slice A D.length c, .slice B L.length d], .string ⟨T.toArray⟩] w (LnS w (lnD D L (some p)) (lnL D L (some p)) (lnT D L R (some p))) := by
  have hm1 := h1.1
  have hm2 := h1.2.1
  unfold maxLen at hm2
  have HDK := Lib.hid (fun W (q : Ext w W) => sDeskOk_any A B c d D L W (h1.ext q) (h2.ext q))
  rw [hd] at HDK
  have HCP := Lib.hid (fun W (q : Ext w W) => l11Copy_any A B c d D L W (h1.ext q) (h2.ext q) (deskB_sm hd))
  have HRD := Lib.hid (fun W => sReadDeed_any T W hl)
  rw [hrd] at HRD
  have hdo := fun (X : Option Addr) (cx : Nat) W (q : Ext w W) (k : Ints W X cx (rx (some p))) => sDeskDo_any A B c d D L (rk (some p)) X cx (rx (some p)) W (h1.ext q) (h2.ext q) k
  have v1 : vD D L (rk (some p)) (rx (some p)) = lnD D L (some p) := if_pos hd
  have v2 : vL D L (rk (some p)) (rx (some p)) = lnL D L (some p) := if_pos hd
  have v3 : vB D L (rk (some p)) (rx (some p)) = doB D L p.1 p.2 := by unfold vB; rw [hd]; rfl
  rw [v1, v2, v3] at hdo
  have HT := Lib.hid (show lnT D L R (some p) = if doB D L p.1 p.2 = true then [111, 107] else [110, 111] from rfl)
  obtain ⟨bo, hbo⟩ : ∃ x, doB D L p.1 p.2 = x := ⟨_, rfl⟩
  rw [hbo] at hdo HT
  obtain ⟨D2, hD2⟩ : ∃ x, lnD D L (some p) = x := ⟨_, rfl⟩
  obtain ⟨L2, hL2⟩ : ∃ x, lnL D L (some p) = x := ⟨_, rfl⟩
  rw [hD2, hL2] at hdo ⊢
  have HDO := Lib.hid hdo
  have hb0 := fun W (q : Ext ((w.alloc (.cells #[.slice A D.length c, .slice B L.length d] 26)).alloc (.cells #[.slice none 0 0, .slice none 0 0] 26)) W) => two_blocks q
  have HB0 := Lib.hid hb0
  have HXT := Lib.hid (show Ext w ((w.alloc (.cells #[.slice A D.length c, .slice B L.length d] 26)).alloc (.cells #[.slice none 0 0, .slice none 0 0] 26)) from (Ext.alloc _ _).alloc' _)
  have hsome : (some p).isSome = true := rfl
  clear h1 h2 hd hb0 hdo v1 v2 v3 hbo hD2 hL2 hrd
  go_enter Tryz.func22, Tryz.ntmps22
  go_wp2_with fail
  refine (HDK.out _ HXT.out).mono ?_
  rintro e w1 ⟨rfl, hx1⟩
  obtain ⟨b0, b1, hx, -⟩ := HB0.out w1 hx1
  obtain ⟨p0, p1⟩ := two_cells b0
  have H01 := Lib.hid (And.intro hx1 hx)
  clear b0 b1 hx1 hx
  go_wp2_with fail
  refine (HCP.out _ H01.out.2).mono ?_
  rintro e w2 ⟨v2, rfl, hO2, hx2⟩
  obtain ⟨Ac, cc, Bc, dc, rfl, -, -, ⟨hcc1, hcc2⟩, hdd1, hdd2⟩ := hO2.split
  obtain ⟨w3, hw3⟩ : ∃ W, w2.alloc (.cells #[.slice Ac D.length cc, .slice Bc L.length dc] 26) = W := ⟨_, rfl⟩
  have hx3 : Ext w1 w3 := by rw [← hw3]; exact hx2.trans (Ext.alloc _ _)
  have H03 := Lib.hid (And.intro (H01.out.1.trans hx3) (H01.out.2.trans hx3))
  clear hO2 hx2 hx3 p0 p1
  go_wp2_with fail
  refine (HRD.out _).mono ?_
  rintro e w4 ⟨v4, rfl, hLf, -, hx4⟩
  obtain ⟨A4, c4, rfl, hI4⟩ := hLf.ints
  obtain ⟨b0, b1, hx, -⟩ := HB0.out w4 (H03.out.1.trans hx4)
  obtain ⟨p0, p1⟩ := two_cells b0
  have p0' : ∀ o, (w4.alloc o).cell? ⟨w.heap.size, 0, none⟩ = some _ := fun o => (Ext.alloc w4 o).cell p0
  have p1' : ∀ o, (w4.alloc o).cell? ⟨w.heap.size, 1, none⟩ = some _ := fun o => (Ext.alloc w4 o).cell p1
  have HD4 := Lib.hid (fun W (q : Ext w4 W) => HDO.out A4 c4 W (hx.trans q) (hI4.ext q))
  have H04 := Lib.hid (And.intro (H03.out.1.trans hx4) hx)
  clear b0 b1 hx hLf hI4 hx4
  go_wp2_with fail
  refine (HD4.out _ (Ext.alloc _ _)).mono ?_
  rintro e w6 ⟨A6, c6, B6, d6, rfl, hF6, hx6, -⟩
  obtain ⟨w7, hw7⟩ : ∃ W, w6.alloc (.cells #[.slice A6 D2.length c6, .slice B6 L2.length d6] 26) = W := ⟨_, rfl⟩
  have hx67 : Ext w6 w7 := by rw [← hw7]; exact Ext.alloc _ _
  have hb7 := heap_alloc_new w6 (.cells #[.slice A6 D2.length c6, .slice B6 L2.length d6] 26)
  rw [hw7] at hb7
  obtain ⟨g0, g1⟩ := two_cells hb7
  have hx47 : Ext w4 w7 := ((Ext.alloc _ _).trans hx6).trans hx67
  obtain ⟨-, q4, -, -⟩ := HB0.out w7 (H04.out.1.trans hx47)
  obtain ⟨t1, t2, t3, t4, t5, t6, -⟩ := keepB_set2 (b := 0) q4 (.slice A6 D2.length c6) (.slice B6 L2.length d6)
  have hsz4 : w.heap.size + 2 ≤ w4.heap.size := by
    have := H04.out.1.size
    simp at this
    omega
  have hfin : ∀ TT : List UInt8, LnS w D2 L2 TT (.returned (.tuple #[.agg #[.slice A6 D2.length c6, .slice B6 L2.length d6], tx TT])) ((w7.setCell ⟨w.heap.size + 1, 0, none⟩ (.slice A6 D2.length c6)).setCell ⟨w.heap.size + 1, 1, none⟩ (.slice B6 L2.length d6)) := fun TT =>
    ⟨A6, c6, B6, d6, rfl, From.low ((((hF6.ext hx67).set (p := ⟨w.heap.size + 1, 0, none⟩) (by show w.heap.size + 1 < _; simp; omega) _).set (p := ⟨w.heap.size + 1, 1, none⟩) (by show w.heap.size + 1 < _; simp; omega) _)) (by simp; omega), ((H04.out.2.trans hx47).setCell' (p := ⟨w.heap.size + 1, 0, none⟩) (by show w.heap.size ≤ w.heap.size + 1; omega) _).setCell' (p := ⟨w.heap.size + 1, 1, none⟩) (by show w.heap.size ≤ w.heap.size + 1; omega) _⟩
  have HFIN := Lib.hid hfin
  clear hfin hF6 hx6 hx67 hb7 hx47 q4 p0 p1 p0' p1'
  cases bo with
  | false =>
    have HE := Lib.hid (show lnT D L R (some p) = [110, 111] from HT.out)
    go_wp2_with fail
    refine bodyPost_ret (v := .tuple #[.agg #[.slice A6 D2.length c6, .slice B6 L2.length d6], tx [110, 111]]) (by simp [results, Tryz.results22, go_sem, t5, t6, tx]) rfl ?_
    rw [HE.out]
    exact HFIN.out _
  | true =>
    have HE := Lib.hid (show lnT D L R (some p) = [111, 107] from HT.out)
    go_wp2_with fail
    refine bodyPost_ret (v := .tuple #[.agg #[.slice A6 D2.length c6, .slice B6 L2.length d6], tx [111, 107]]) (by simp [results, Tryz.results22, go_sem, t5, t6, tx]) rfl ?_
    rw [HE.out]
    exact HFIN.out _
/-- what is said of a line, by both -/
def sayT (D : List (List Int)) (L : List (List (List Int))) (T : List UInt8) : List UInt8 := lineT D L (askV D T) T
theorem sDeskLine_any (A B : Option Addr) (c d : Nat) (D : List (List Int)) (L : List (List (List Int))) (T : List UInt8) (w : World) (h1 : Mat w A c D) (h2 : MatS w B d L) (hl : T.length ≤ 1048576) :
    Calls Tryz.prog 22 #[.agg #[.slice A D.length c, .slice B L.length d], .string ⟨T.toArray⟩] w (LnS w (lineD D L T) (lineL D L T) (sayT D L T)) := by
  unfold sayT lineD lineL lineT
  cases hd : deskB D L with
  | false => exact sLine_bad A B c d D L T w h1 h2 hd
  | true =>
    rw [if_pos rfl, if_pos rfl, if_pos rfl]
    cases hr : rdS T with
    | some p => exact sLine_deed A B c d D L T _ p w h1 h2 hd hl hr
    | none =>
      show Calls _ _ _ _ (LnS w D L (askV D T))
      unfold askV
      by_cases q1 : T = qPoints
      · subst q1; rw [if_pos rfl]; exact sLine_points A B c d D L w h1 h2 hd
      rw [if_neg q1]
      by_cases q2 : T = qWide
      · subst q2; rw [if_pos rfl]; exact sLine_wide A B c d D L w h1 h2 hd
      rw [if_neg q2]
      by_cases q3 : T = qRadius
      · subst q3; rw [if_pos rfl]; exact sLine_radius A B c d D L w h1 h2 hd
      rw [if_neg q3]
      by_cases q4 : T = qGap
      · subst q4; rw [if_pos rfl]; exact sLine_gap A B c d D L w h1 h2 hd
      rw [if_neg q4]
      by_cases q5 : T = qMedians
      · subst q5; rw [if_pos rfl]; exact sLine_medians A B c d D L w h1 h2 hd
      rw [if_neg q5]
      by_cases q6 : T = qSteps
      · subst q6; rw [if_pos rfl]; exact sLine_steps A B c d D L w h1 h2 hd
      rw [if_neg q6]
      by_cases q7 : T = qSplits
      · subst q7; rw [if_pos rfl]; exact sLine_splits A B c d D L w h1 h2 hd
      rw [if_neg q7, two_same]
      exact sLine_two A B c d D L T w h1 h2 hd ⟨q1, q2, q3, q4, q5, q6, q7⟩ hl hr
/-- the same of the program's -/
theorem iDeskLine_say (A B : Option Addr) (c d : Nat) (D : List (List Int)) (L : List (List (List Int))) (T : List UInt8) (w : World) (h1 : Mat w A c D) (h2 : MatS w B d L) (hl : T.length ≤ 1048576) (hE : Env w) (ht : Tab w) :
    Calls Tryz.prog 12 #[.agg #[.slice A D.length c, .slice B L.length d], .string ⟨T.toArray⟩] w (LnR w (lineD D L T) (lineL D L T) (sayT D L T)) :=
  iDeskLine_any A B c d D L T (askV D T) w h1 h2 hl hE fun hd _ W q => asked_any A c D T W (h1.ext q) (deskB_parts hd).1 hl (hE.ext q) (ht.ext q)
end Go.Proofs.YtnalcgcdohlfiaaGreatDoor
namespace Go.Proofs.YtnalcgcdohlfiaaGreatDoor
open Go.RowKit
theorem gPow : Tryz.prog.globalNamed "internal/strconv.uint64pow10" = some 4 := by kernel_rfl
theorem tPow : (Tryz.prog.globals[4]?).map (·.type) = some 166 := by kernel_rfl
theorem tab_of {W : World} {l : List (String × DataW Unit)} (h : laidMet Tryz.prog l W) (hm : ("internal/strconv.uint64pow10", Rows.laid_internal_strconv_uint64pow10) ∈ l) : Tab W := by
  obtain ⟨g, t, cs, fuel, p, h1, h2, h3, h4⟩ := Lib.laidMet.reads h hm
  obtain rfl := Option.some.inj (gPow.symm.trans h1)
  obtain rfl := Option.some.inj (tPow.symm.trans h2)
  rw [show Rows.laid_internal_strconv_uint64pow10 = Lib.tabData .u64 Lib.pow10Tab from rfl] at h4
  have := Lib.cells_of_tab (n := 20) Tryz.underlying166 Tryz.underlying136 (by kernel_rfl) (by kernel_rfl) h4
  unfold Tab Lib.TabIs
  rw [h3, ← this]
end Go.Proofs.YtnalcgcdohlfiaaGreatDoor
