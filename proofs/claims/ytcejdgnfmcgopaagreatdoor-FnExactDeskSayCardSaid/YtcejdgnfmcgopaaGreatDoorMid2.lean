/- What is proved: impl.MiddlesOf, spec.BetweenOf, spec.MiddlesOf return the points that lie between, as new memory. Conditions: sizes up to 2^20. -/
import Derived.Test.YtcejdgnfmcgopaaGreatDoorMid
import Derived.Test.YtcejdgnfmcgopaaGreatDoorPts
import Derived.Test.YtcejdgnfmcgopaaGreatDoorPa
namespace Go.Proofs.YtcejdgnfmcgopaaGreatDoor
open Go.RowKit

def btwV (D : List (List Int)) (a b : Int) : List Int := if pointB D a = true ∧ pointB D b = true then selN (btwB D a.toNat b.toNat) D.length else []
def midsV (D : List (List Int)) (a b c : Int) : List Int := if ptsB D [a, b, c] = true then midsL D a.toNat b.toNat c.toNat else []
theorem selN_len (p : Nat → Bool) (n : Nat) : (selN p n).length ≤ n := by
  rw [selN_eq, List.length_map]
  have := List.length_filter_le p (List.range n)
  simpa using this
theorem FreshI.nil (w : World) {W : World} (h : Ext w W) (A : Option Addr) (c : Nat) (hA : A = none ∨ c ≤ maxLen) (hc : c ≤ maxLen) : FreshI w [] (.returned (.slice A 0 c)) W :=
  ⟨_, rfl, Leaf.nil _ _ _ hc, fun g hg => by cases A <;> simp [lb] at hg, h⟩

set_option maxRecDepth 100000 in
set_option maxHeartbeats 2000000 in
theorem sBetweenOf_any (A : Option Addr) (cp : Nat) (D : List (List Int)) (a b : Int) (w : World) (h : Mat w A cp D) :
    Calls Tryz.prog 104 #[.slice A D.length cp, .int .i64 a, .int .i64 b] w (FreshI w (btwV D a b)) := by
  have hcm := h.2.1
  have hlc := h.1
  unfold maxLen at hcm
  have HC := Lib.hid (fun W (k : Mat W A cp D) => SpaceOk_any A cp D W k)
  have HM := Lib.hid h
  have HV := Lib.hid (show btwV D a b = if pointB D a = true ∧ pointB D b = true then selN (btwB D a.toNat b.toNat) D.length else [] from rfl)
  cases hs : spB D with
  | false =>
    have HF := Lib.hid (show btwV D a b = [] by rw [HV.out, if_neg]; intro hh; unfold pointB at hh; rw [hs] at hh; simp at hh)
    rw [hs] at HC
    clear hs
    go_enter Tryz.func104, Tryz.ntmps104
    go_wp2_with fail
    refine (HC.out _ (HM.out.ext (by repeat (first | exact Ext.refl _ | assumption | apply Ext.drewN' | apply Ext.alloc' | refine Ext.trans ?_ (by assumption))))).mono ?_
    rintro e w1 ⟨rfl, m1, rfl⟩
    go_wp2
    go_ret
    rw [HF.out]
    exact FreshI.nil w (by repeat (first | exact Ext.refl _ | assumption | apply Ext.drewN' | apply Ext.alloc' | refine Ext.trans ?_ (by assumption))) _ _ (.inr (Nat.zero_le _)) (Nat.zero_le _)
  | true =>
    have hpt : ∀ x : Int, inB x 0 (D.length - 1) = pointB D x := fun x => by
      unfold inB pointB
      rw [hs, Bool.true_and]
      exact b_dd (by omega)
    cases ea : inB a 0 (D.length - 1) with
    | false =>
      have HF := Lib.hid (show btwV D a b = [] by rw [HV.out, if_neg]; rw [← hpt a, ea]; simp)
      rw [hs] at HC
      clear hs hpt
      go_enter Tryz.func104, Tryz.ntmps104
      go_wp2_with fail
      refine (HC.out _ (HM.out.ext (by repeat (first | exact Ext.refl _ | assumption | apply Ext.drewN' | apply Ext.alloc' | refine Ext.trans ?_ (by assumption))))).mono ?_
      rintro e w1 ⟨rfl, m1, rfl⟩
      go_wp2_with fail
      refine (l1In_any _ _ _ _).mono ?_
      rintro e w2 ⟨rfl, rfl⟩
      go_wp2
      go_ret
      rw [HF.out]
      exact FreshI.nil w (by repeat (first | exact Ext.refl _ | assumption | apply Ext.drewN' | apply Ext.alloc' | refine Ext.trans ?_ (by assumption))) _ _ (.inr (Nat.zero_le _)) (Nat.zero_le _)
    | true =>
    cases eb : inB b 0 (D.length - 1) with
    | false =>
      have HF := Lib.hid (show btwV D a b = [] by rw [HV.out, if_neg]; rw [← hpt b, eb]; simp)
      rw [hs] at HC
      clear hs hpt
      go_enter Tryz.func104, Tryz.ntmps104
      go_wp2_with fail
      refine (HC.out _ (HM.out.ext (by repeat (first | exact Ext.refl _ | assumption | apply Ext.drewN' | apply Ext.alloc' | refine Ext.trans ?_ (by assumption))))).mono ?_
      rintro e w1 ⟨rfl, m1, rfl⟩
      go_wp2_with fail
      refine (l1In_any _ _ _ _).mono ?_
      rintro e w2 ⟨rfl, rfl⟩
      go_wp2_with fail
      refine (l1In_any _ _ _ _).mono ?_
      rintro e w3 ⟨rfl, rfl⟩
      go_wp2
      go_ret
      rw [HF.out]
      exact FreshI.nil w (by repeat (first | exact Ext.refl _ | assumption | apply Ext.drewN' | apply Ext.alloc' | refine Ext.trans ?_ (by assumption))) _ _ (.inr (Nat.zero_le _)) (Nat.zero_le _)
    | true =>
      have pa := hpt a
      have pb := hpt b
      rw [ea] at pa
      rw [eb] at pb
      obtain ⟨_, a', rfl, ha⟩ := pointB_parts pa.symm
      obtain ⟨_, b', rfl, hb⟩ := pointB_parts pb.symm
      have HF := Lib.hid (show btwV D a' b' = selN (btwB D a' b') D.length by rw [HV.out, if_pos ⟨pa.symm, pb.symm⟩]; rfl)
      obtain ⟨⟨hn1, hn6⟩, hsq, hcells⟩ := farB_parts (spB_far hs)
      obtain ⟨bk, o, rc, rb, ro, hA, hrow, -, hcell, -⟩ := h.square hsq
      obtain rfl := hA (by omega)
      rw [hs] at HC
      have ha' : (a' : Int) < (D.length : Nat) := by omega
      have hb' : (b' : Int) < (D.length : Nat) := by omega
      clear hs hpt pa pb HV hA
      go_enter Tryz.func104, Tryz.ntmps104
      go_wp2_with fail
      refine (HC.out _ (HM.out.ext (by repeat (first | exact Ext.refl _ | assumption | apply Ext.drewN' | apply Ext.alloc' | refine Ext.trans ?_ (by assumption))))).mono ?_
      rintro e w1 ⟨rfl, m1, rfl⟩
      go_wp2_with fail
      refine (l1In_any _ _ _ _).mono ?_
      rintro e w2 ⟨rfl, rfl⟩
      go_wp2_with fail
      refine (l1In_any _ _ _ _).mono ?_
      rintro e w3 ⟨rfl, rfl⟩
      go_wp2
      clear ea eb
      go_loopg [7, 8] D.length (fun g s7 s8 wr => ∃ (i : Nat), i + g = D.length ∧ s8 = .int .i64 i ∧ Col (btwB D a' b') w wr s7 g i (selN (btwB D a' b') D.length))
      case atStart => exact ⟨0, by omega, rfl, (Col.start (Ext.refl _)).on (Ext.drewN _ _)⟩
      case round =>
        obtain ⟨x, hi, rfl, hcol⟩ := hrel
        by_cases hin : x < D.length
        · obtain ⟨g', rfl⟩ : ∃ g', gk = g' + 1 := ⟨gk - 1, by omega⟩
          have hin' : (x : Int) < (D.length : Nat) := by omega
          have hx := hcol.x
          have r1 := hx.cell (hrow a' ha)
          have r3 := hx.cell (hrow x hin)
          have c1 := hx.cell (hcell a' ha x hin)
          have c2 := hx.cell (hcell x hin b' hb)
          have c3 := hx.cell (hcell a' ha b' hb)
          obtain ⟨p1, q1, -, -⟩ := hcells a' ha x hin
          obtain ⟨p2, q2, -, -⟩ := hcells x hin b' hb
          clear hrow hcell hcells hx
          have Hdef := Lib.hid (show btwB D a' b' x = decide (at2 D a' x + at2 D x b' = at2 D a' b') from rfl)
          cases e1 : (at2 D a' x + at2 D x b' == at2 D a' b') with
          | false =>
            have HE := Lib.hid (show btwB D a' b' x = false by rw [Hdef.out, decide_eq_false (by simpa using e1)])
            go_wp2
            go_quiet (fail)
            go_wp2
            go_roundg g'
            case measure => omega
            case rel => exact ⟨x + 1, by omega, by go_num, hcol.skip HE.out (Ext.drewN _ _)⟩
          | true =>
            have HE := Lib.hid (show btwB D a' b' x = true by rw [Hdef.out, decide_eq_true (beq_iff_eq.1 e1)])
            go_wp2
            go_quiet (fail)
            have hcol2 := hcol.on (Ext.drewN _ nq)
            go_wp2_with (at_builtin; refine Col.push rfl Tryz.underlying54 infoI rfl (.tmp 59) (.tmp 61) rfl _ rfl rfl hcol2 HE.out (by omega) ?_; intro v' w' hcol')
            go_roundg g'
            case measure => omega
            case rel => exact ⟨x + 1, by omega, by go_num, hcol'⟩
        · have hin' : ¬ (x : Int) < (D.length : Nat) := by omega
          obtain rfl : gk = 0 := by omega
          clear hrow hcell hcells
          go_wp2
          go_ret
          rw [HF.out]
          exact hcol.done

theorem ints_at {w : World} {A : Option Addr} {c b o : Nat} {xs : List Int} (h : Ints w A c xs) (hA : 0 < xs.length → A = some ⟨b, o, none⟩) : ∀ j, j < xs.length → w.cell? ⟨b, o + j, none⟩ = some (.int .i64 (ix xs j)) := by
  obtain ⟨_, _, b', o', hA', hc⟩ := h
  intro j hj
  have e := (hA (by omega)).symm.trans (hA' (by omega))
  injection e with e
  injection e with e1 e2
  subst e1; subst e2
  exact hc j hj

/-- how often a number is among others, on top of so many -/
def cntI (xs : List Int) (k : Int) (n0 : Int) : Int := itR (fun j n => if ix xs j = k then n + 1 else n) xs.length 0 n0
def triM (X Y Z : List Int) (k : Nat) : Bool := decide (cntI Z k (cntI Y k (cntI X k 0)) = 3)

end Go.Proofs.YtcejdgnfmcgopaaGreatDoor
