/- What is proved: impl.MiddlesOf, spec.BetweenOf, spec.MiddlesOf return the points that lie between, as new memory. Conditions: sizes up to 2^20. -/
import Derived.Test.YtjaigidlpfdfiaaMid
import Derived.Test.YtjaigidlpfdfiaaPts
import Derived.Test.YtjaigidlpfdfiaaMark
namespace Go.Proofs.Ytjaigidlpfdfiaa
open Go.RowKit

def btwV (D : List (List Int)) (a b : Int) : List Int := if pointB D a = true ∧ pointB D b = true then selN (btwB D a.toNat b.toNat) D.length else []
def midsV (D : List (List Int)) (a b c : Int) : List Int := if ptsB D [a, b, c] = true then midsL D a.toNat b.toNat c.toNat else []
theorem selN_len (p : Nat → Bool) (n : Nat) : (selN p n).length ≤ n := by
  rw [selN_eq, List.length_map]
  have := List.length_filter_le p (List.range n)
  simpa using this
theorem FreshI.nil (w : World) {W : World} (h : Ext w W) (A : Option Addr) (c : Nat) (hA : A = none ∨ c ≤ maxLen) (hc : c ≤ maxLen) : FreshI w [] (.returned (.slice A 0 c)) W :=
  ⟨_, rfl, Leaf.nil _ _ _ hc, fun g hg => by cases A <;> simp [lb] at hg, h⟩

set_option maxRecDepth 100000 in
set_option maxHeartbeats 2000000 in
theorem sBetweenOf_any (A : Option Addr) (cp : Nat) (D : List (List Int)) (a b : Int) (w : World) (h : Mat w A cp D) :
    Calls Try.prog 72 #[.slice A D.length cp, .int .i64 a, .int .i64 b] w (FreshI w (btwV D a b)) := by
  have hcm := h.2.1
  have hlc := h.1
  unfold maxLen at hcm
  have HC := Lib.hid (fun W (k : Mat W A cp D) => SpaceOk_any A cp D W k)
  have HM := Lib.hid h
  have HV := Lib.hid (show btwV D a b = if pointB D a = true ∧ pointB D b = true then selN (btwB D a.toNat b.toNat) D.length else [] from rfl)
  cases hs : spB D with
  | false =>
    have HF := Lib.hid (show btwV D a b = [] by rw [HV.out, if_neg]; intro hh; unfold pointB at hh; rw [hs] at hh; simp at hh)
    rw [hs] at HC
    clear hs
    go_enter Try.func72, Try.ntmps72
    go_wp2_with fail
    refine (HC.out _ (HM.out.ext (by repeat (first | exact Ext.refl _ | assumption | apply Ext.drewN' | apply Ext.alloc' | refine Ext.trans ?_ (by assumption))))).mono ?_
    rintro e w1 ⟨rfl, m1, rfl⟩
    go_wp2
    go_ret
    rw [HF.out]
    exact FreshI.nil w (by repeat (first | exact Ext.refl _ | assumption | apply Ext.drewN' | apply Ext.alloc' | refine Ext.trans ?_ (by assumption))) _ _ (.inr (Nat.zero_le _)) (Nat.zero_le _)
  | true =>
    have hpt : ∀ x : Int, inB x 0 (D.length - 1) = pointB D x := fun x => by
      unfold inB pointB
      rw [hs, Bool.true_and]
      exact b_dd (by omega)
    cases ea : inB a 0 (D.length - 1) with
    | false =>
      have HF := Lib.hid (show btwV D a b = [] by rw [HV.out, if_neg]; rw [← hpt a, ea]; simp)
      rw [hs] at HC
      clear hs hpt
      go_enter Try.func72, Try.ntmps72
      go_wp2_with fail
      refine (HC.out _ (HM.out.ext (by repeat (first | exact Ext.refl _ | assumption | apply Ext.drewN' | apply Ext.alloc' | refine Ext.trans ?_ (by assumption))))).mono ?_
      rintro e w1 ⟨rfl, m1, rfl⟩
      go_wp2_with fail
      refine (l1In_any _ _ _ _).mono ?_
      rintro e w2 ⟨rfl, rfl⟩
      go_wp2
      go_ret
      rw [HF.out]
      exact FreshI.nil w (by repeat (first | exact Ext.refl _ | assumption | apply Ext.drewN' | apply Ext.alloc' | refine Ext.trans ?_ (by assumption))) _ _ (.inr (Nat.zero_le _)) (Nat.zero_le _)
    | true =>
    cases eb : inB b 0 (D.length - 1) with
    | false =>
      have HF := Lib.hid (show btwV D a b = [] by rw [HV.out, if_neg]; rw [← hpt b, eb]; simp)
      rw [hs] at HC
      clear hs hpt
      go_enter Try.func72, Try.ntmps72
      go_wp2_with fail
      refine (HC.out _ (HM.out.ext (by repeat (first | exact Ext.refl _ | assumption | apply Ext.drewN' | apply Ext.alloc' | refine Ext.trans ?_ (by assumption))))).mono ?_
      rintro e w1 ⟨rfl, m1, rfl⟩
      go_wp2_with fail
      refine (l1In_any _ _ _ _).mono ?_
      rintro e w2 ⟨rfl, rfl⟩
      go_wp2_with fail
      refine (l1In_any _ _ _ _).mono ?_
      rintro e w3 ⟨rfl, rfl⟩
      go_wp2
      go_ret
      rw [HF.out]
      exact FreshI.nil w (by repeat (first | exact Ext.refl _ | assumption | apply Ext.drewN' | apply Ext.alloc' | refine Ext.trans ?_ (by assumption))) _ _ (.inr (Nat.zero_le _)) (Nat.zero_le _)
    | true =>
      have pa := hpt a
      have pb := hpt b
      rw [ea] at pa
      rw [eb] at pb
      obtain ⟨_, a', rfl, ha⟩ := pointB_parts pa.symm
      obtain ⟨_, b', rfl, hb⟩ := pointB_parts pb.symm
      have HF := Lib.hid (show btwV D a' b' = selN (btwB D a' b') D.length by rw [HV.out, if_pos ⟨pa.symm, pb.symm⟩]; rfl)
      obtain ⟨⟨hn1, hn6⟩, hsq, hcells⟩ := farB_parts (spB_far hs)
      obtain ⟨bk, o, rc, rb, ro, hA, hrow, -, hcell, -⟩ := h.square hsq
      obtain rfl := hA (by omega)
      rw [hs] at HC
      have ha' : (a' : Int) < (D.length : Nat) := by omega
      have hb' : (b' : Int) < (D.length : Nat) := by omega
      clear hs hpt pa pb HV hA
      go_enter Try.func72, Try.ntmps72
      go_wp2_with fail
      refine (HC.out _ (HM.out.ext (by repeat (first | exact Ext.refl _ | assumption | apply Ext.drewN' | apply Ext.alloc' | refine Ext.trans ?_ (by assumption))))).mono ?_
      rintro e w1 ⟨rfl, m1, rfl⟩
      go_wp2_with fail
      refine (l1In_any _ _ _ _).mono ?_
      rintro e w2 ⟨rfl, rfl⟩
      go_wp2_with fail
      refine (l1In_any _ _ _ _).mono ?_
      rintro e w3 ⟨rfl, rfl⟩
      go_wp2
      clear ea eb
      go_loopg [7, 8] D.length (fun g s7 s8 wr => ∃ (i : Nat), i + g = D.length ∧ s8 = .int .i64 i ∧ Col (btwB D a' b') w wr s7 g i (selN (btwB D a' b') D.length))
      case atStart => exact ⟨0, by omega, rfl, (Col.start (Ext.refl _)).on (Ext.drewN _ _)⟩
      case round =>
        obtain ⟨x, hi, rfl, hcol⟩ := hrel
        by_cases hin : x < D.length
        · obtain ⟨g', rfl⟩ : ∃ g', gk = g' + 1 := ⟨gk - 1, by omega⟩
          have hin' : (x : Int) < (D.length : Nat) := by omega
          have hx := hcol.x
          have r1 := hx.cell (hrow a' ha)
          have r3 := hx.cell (hrow x hin)
          have c1 := hx.cell (hcell a' ha x hin)
          have c2 := hx.cell (hcell x hin b' hb)
          have c3 := hx.cell (hcell a' ha b' hb)
          obtain ⟨p1, q1, -, -⟩ := hcells a' ha x hin
          obtain ⟨p2, q2, -, -⟩ := hcells x hin b' hb
          clear hrow hcell hcells hx
          have Hdef := Lib.hid (show btwB D a' b' x = decide (at2 D a' x + at2 D x b' = at2 D a' b') from rfl)
          cases e1 : (at2 D a' x + at2 D x b' == at2 D a' b') with
          | false =>
            have HE := Lib.hid (show btwB D a' b' x = false by rw [Hdef.out, decide_eq_false (by simpa using e1)])
            go_wp2
            go_quiet (fail)
            go_wp2
            go_roundg g'
            case measure => omega
            case rel => exact ⟨x + 1, by omega, by go_num, hcol.skip HE.out (Ext.drewN _ _)⟩
          | true =>
            have HE := Lib.hid (show btwB D a' b' x = true by rw [Hdef.out, decide_eq_true (beq_iff_eq.1 e1)])
            go_wp2
            go_quiet (fail)
            have hcol2 := hcol.on (Ext.drewN _ nq)
            go_wp2_with (at_builtin; refine Col.push rfl Try.underlying39 infoI rfl (.tmp 59) (.tmp 61) rfl _ rfl rfl hcol2 HE.out (by omega) ?_; intro v' w' hcol')
            go_roundg g'
            case measure => omega
            case rel => exact ⟨x + 1, by omega, by go_num, hcol'⟩
        · have hin' : ¬ (x : Int) < (D.length : Nat) := by omega
          obtain rfl : gk = 0 := by omega
          clear hrow hcell hcells
          go_wp2
          go_ret
          rw [HF.out]
          exact hcol.done

theorem ints_at {w : World} {A : Option Addr} {c b o : Nat} {xs : List Int} (h : Ints w A c xs) (hA : 0 < xs.length → A = some ⟨b, o, none⟩) : ∀ j, j < xs.length → w.cell? ⟨b, o + j, none⟩ = some (.int .i64 (ix xs j)) := by
  obtain ⟨_, _, b', o', hA', hc⟩ := h
  intro j hj
  have e := (hA (by omega)).symm.trans (hA' (by omega))
  injection e with e
  injection e with e1 e2
  subst e1; subst e2
  exact hc j hj

/-- how often a number is among others, on top of so many -/
def cntI (xs : List Int) (k : Int) (n0 : Int) : Int := itR (fun j n => if ix xs j = k then n + 1 else n) xs.length 0 n0
def triM (X Y Z : List Int) (k : Nat) : Bool := decide (cntI Z k (cntI Y k (cntI X k 0)) = 3)

set_option maxRecDepth 100000 in
set_option maxHeartbeats 4000000 in
theorem sMiddlesOf_any (A : Option Addr) (cp : Nat) (D : List (List Int)) (a b c : Int) (w : World) (h : Mat w A cp D) (hz : D.length ≤ 1048576) :
    Calls Try.prog 62 #[.slice A D.length cp, .int .i64 a, .int .i64 b, .int .i64 c] w (FreshI w (selN (triM (btwV D a b) (btwV D b c) (btwV D a c)) D.length)) := by
  have lens : ∀ x y, (btwV D x y).length ≤ 1048576 := fun x y => by
    unfold btwV; split
    · have := selN_len (btwB D x.toNat y.toNat) D.length; omega
    · simp
  have HM := Lib.hid h
  have C1 := Lib.hid (fun W (k : Mat W A cp D) => sBetweenOf_any A cp D a b W k)
  have C2 := Lib.hid (fun W (k : Mat W A cp D) => sBetweenOf_any A cp D b c W k)
  have C3 := Lib.hid (fun W (k : Mat W A cp D) => sBetweenOf_any A cp D a c W k)
  have l1 := lens a b
  have l2 := lens b c
  have l3 := lens a c
  clear lens
  generalize btwV D a b = X at *
  generalize btwV D b c = Y at *
  generalize btwV D a c = Z at *
  go_enter Try.func62, Try.ntmps62
  go_wp2_with fail
  refine (C1.out _ (HM.out.ext (by repeat (first | exact Ext.refl _ | assumption | apply Ext.drewN' | apply Ext.alloc' | refine Ext.trans ?_ (by assumption))))).mono ?_
  rintro e w1 ⟨v1, rfl, hl1, hf1, hx1⟩
  obtain ⟨A1, c1, rfl, -⟩ := hl1.ints
  have I1 := Lib.hid (And.intro hl1 hf1)
  clear hl1 hf1
  go_wp2_with fail
  refine (C2.out _ (HM.out.ext (by repeat (first | exact Ext.refl _ | assumption | apply Ext.drewN' | apply Ext.alloc' | refine Ext.trans ?_ (by assumption))))).mono ?_
  rintro e w2 ⟨v2, rfl, hl2, hf2, hx2⟩
  obtain ⟨A2, c2, rfl, -⟩ := hl2.ints
  have I2 := Lib.hid (And.intro hl2 hf2)
  clear hl2 hf2
  go_wp2_with fail
  refine (C3.out _ (HM.out.ext (by repeat (first | exact Ext.refl _ | assumption | apply Ext.drewN' | apply Ext.alloc' | refine Ext.trans ?_ (by assumption))))).mono ?_
  rintro e w3 ⟨v3, rfl, hl3, hf3, hx3⟩
  obtain ⟨A3, c3, rfl, -⟩ := hl3.ints
  have I3 := Lib.hid (And.intro hl3 hf3)
  clear hl3 hf3
  have E1 : w.heap.size + 1 ≤ w1.heap.size := by have := hx1.size; simpa using this
  have E2 := hx2.size
  have E3 := hx3.size
  have LL := Lib.hid (And.intro (I1.out.1.ext (show Ext w1 w3 from (by repeat (first | exact Ext.refl _ | assumption | apply Ext.drewN' | apply Ext.alloc' | refine Ext.trans ?_ (by assumption))))) (And.intro (I2.out.1.ext (show Ext w2 w3 from (by repeat (first | exact Ext.refl _ | assumption | apply Ext.drewN' | apply Ext.alloc' | refine Ext.trans ?_ (by assumption))))) I3.out.1))
  obtain ⟨_, k1, b1, o1, hA1, hc1⟩ := leafI LL.out.1
  obtain ⟨_, k2, b2, o2, hA2, hc2⟩ := leafI LL.out.2.1
  obtain ⟨_, k3, b3, o3, hA3, hc3⟩ := leafI LL.out.2.2
  clear hc1 hc2 hc3
  have HN := Lib.hid (show ∀ g, g ∈ lb (.slice A1 X.length c1) ∨ g ∈ lb (.slice A2 Y.length c2) ∨ g ∈ lb (.slice A3 Z.length c3) → w.heap.size < g ∧ g < w3.heap.size from fun g hg => by
    rcases hg with hg | hg | hg
    · have a1 := I1.out.2 g hg
      have a2 := I1.out.1.lt hg
      have a3 : w.heap.size + 1 ≤ g := by simpa using a1
      omega
    · have a1 := I2.out.2 g hg
      have a2 := I2.out.1.lt hg
      omega
    · have a1 := I3.out.2 g hg
      have a2 := I3.out.1.lt hg
      omega)
  clear E1 E2 E3
  go_wp2
  go_loopg [9, 13] D.length (fun g s9 s13 wr => ∃ (i : Nat), i + g = D.length ∧ s13 = .int .i64 i ∧ Hid (w3.heap.size ≤ wr.heap.size ∧ (∀ q, s9.ownBlock = some q → q = w.heap.size ∨ w3.heap.size ≤ q) ∧ Leaf wr (.slice A1 X.length c1) X ∧ Leaf wr (.slice A2 Y.length c2) Y ∧ Leaf wr (.slice A3 Z.length c3) Z) ∧ Col (triM X Y Z) w wr s9 g i (selN (triM X Y Z) D.length))
  case atStart => exact ⟨0, by omega, rfl, Lib.hid ⟨Nat.le_refl _, fun q hq => .inl (by simp [Value.ownBlock] at hq; exact hq.symm), LL.out⟩, (Col.start (Ext.refl _)).on (by repeat (first | exact Ext.refl _ | assumption | apply Ext.drewN' | apply Ext.alloc' | refine Ext.trans ?_ (by assumption)))⟩
  case round =>
    obtain ⟨k, hi, rfl, HX, hcol⟩ := hrel
    by_cases hin : k < D.length
    · obtain ⟨g', rfl⟩ : ∃ g', gk = g' + 1 := ⟨gk - 1, by omega⟩
      have hin' : (k : Int) < (D.length : Nat) := by omega
      have HD := Lib.hid (And.intro (ints_at (leafI HX.out.2.2.1) hA1) (And.intro (ints_at (leafI HX.out.2.2.2.1) hA2) (ints_at (leafI HX.out.2.2.2.2) hA3)))
      obtain ⟨wo, rfl⟩ : ∃ wo : World, wo = wr := ⟨_, rfl⟩
      go_wp2
      go_loopg [14, 15] X.length (fun g s14 s15 wi => wi = wo ∧ ∃ (j : Nat) (n : Int), j + g = X.length ∧ s15 = .int .i64 j ∧ s14 = .int .i64 n ∧ 0 ≤ n ∧ n ≤ j ∧ Hid (itR (fun j n => if ix X j = (k : Int) then n + 1 else n) g j n = cntI X k 0))
      case atStart => exact ⟨rfl, 0, 0, by omega, rfl, rfl, by omega, by omega, Lib.hid rfl⟩
      case round =>
      obtain ⟨rfl, j, n, hj, rfl, rfl, hn0, hn1, HJ⟩ := hrel
      by_cases hjn : j < X.length
      · obtain ⟨gj, rfl⟩ : ∃ g', gk = g' + 1 := ⟨gk - 1, by omega⟩
        have hjn' : (j : Int) < (X.length : Nat) := by omega
        obtain rfl := hA1 (by omega)
        have c := HD.out.1 j hjn
        by_cases e : ix X j = (k : Int)
        · have e' : (ix X j == (k : Int)) = true := by simp [e]
          have E1 := Lib.hid e
          clear e
          go_wp2
          go_roundg gj
          case measure => omega
          case rel => exact ⟨rfl, j + 1, n + 1, by omega, by go_num, rfl, by omega, by omega, Lib.hid (by rw [← HJ.out, itR, if_pos E1.out])⟩
        · have e' : (ix X j == (k : Int)) = false := by simp [e]
          have E1 := Lib.hid e
          clear e
          go_wp2
          go_roundg gj
          case measure => omega
          case rel => exact ⟨rfl, j + 1, n, by omega, by go_num, rfl, by omega, by omega, Lib.hid (by rw [← HJ.out, itR, if_neg E1.out])⟩
      have hjn' : ¬ (j : Int) < (X.length : Nat) := by omega
      obtain rfl : gk = 0 := by omega
      have N1 := Lib.hid (show n = cntI X k 0 from HJ.out)
      have nb1 : n ≤ 1048576 := by omega
      clear HJ hn1
      obtain ⟨wo, rfl⟩ : ∃ wo : World, wo = wr := ⟨_, rfl⟩
      go_wp2
      go_loopg [14, 16] Y.length (fun g s14 s16 wi => wi = wo ∧ ∃ (j : Nat) (q : Int), j + g = Y.length ∧ s16 = .int .i64 j ∧ s14 = .int .i64 q ∧ 0 ≤ q ∧ q ≤ 1048576 + j ∧ Hid (itR (fun j n => if ix Y j = (k : Int) then n + 1 else n) g j q = cntI Y k n))
      case atStart => exact ⟨rfl, 0, n, by omega, rfl, rfl, by omega, by omega, Lib.hid rfl⟩
      case round =>
      obtain ⟨rfl, j, q, hj, rfl, rfl, hq0, hq1, HJ⟩ := hrel
      by_cases hjn : j < Y.length
      · obtain ⟨gj, rfl⟩ : ∃ g', gk = g' + 1 := ⟨gk - 1, by omega⟩
        have hjn' : (j : Int) < (Y.length : Nat) := by omega
        obtain rfl := hA2 (by omega)
        have c := HD.out.2.1 j hjn
        by_cases e : ix Y j = (k : Int)
        · have e' : (ix Y j == (k : Int)) = true := by simp [e]
          have E1 := Lib.hid e
          clear e
          go_wp2
          go_roundg gj
          case measure => omega
          case rel => exact ⟨rfl, j + 1, q + 1, by omega, by go_num, rfl, by omega, by omega, Lib.hid (by rw [← HJ.out, itR, if_pos E1.out])⟩
        · have e' : (ix Y j == (k : Int)) = false := by simp [e]
          have E1 := Lib.hid e
          clear e
          go_wp2
          go_roundg gj
          case measure => omega
          case rel => exact ⟨rfl, j + 1, q, by omega, by go_num, rfl, by omega, by omega, Lib.hid (by rw [← HJ.out, itR, if_neg E1.out])⟩
      have hjn' : ¬ (j : Int) < (Y.length : Nat) := by omega
      obtain rfl : gk = 0 := by omega
      have N2 := Lib.hid (show q = cntI Y k n from HJ.out)
      have nb2 : q ≤ 2097152 := by omega
      clear HJ hq1
      obtain ⟨wo, rfl⟩ : ∃ wo : World, wo = wr := ⟨_, rfl⟩
      go_wp2
      go_loopg [14, 17] Z.length (fun g s14 s17 wi => wi = wo ∧ ∃ (j : Nat) (r : Int), j + g = Z.length ∧ s17 = .int .i64 j ∧ s14 = .int .i64 r ∧ 0 ≤ r ∧ r ≤ 2097152 + j ∧ Hid (itR (fun j n => if ix Z j = (k : Int) then n + 1 else n) g j r = cntI Z k q))
      case atStart => exact ⟨rfl, 0, q, by omega, rfl, rfl, by omega, by omega, Lib.hid rfl⟩
      case round =>
      obtain ⟨rfl, j, r, hj, rfl, rfl, hr0, hr1, HJ⟩ := hrel
      by_cases hjn : j < Z.length
      · obtain ⟨gj, rfl⟩ : ∃ g', gk = g' + 1 := ⟨gk - 1, by omega⟩
        have hjn' : (j : Int) < (Z.length : Nat) := by omega
        obtain rfl := hA3 (by omega)
        have c := HD.out.2.2 j hjn
        by_cases e : ix Z j = (k : Int)
        · have e' : (ix Z j == (k : Int)) = true := by simp [e]
          have E1 := Lib.hid e
          clear e
          go_wp2
          go_roundg gj
          case measure => omega
          case rel => exact ⟨rfl, j + 1, r + 1, by omega, by go_num, rfl, by omega, by omega, Lib.hid (by rw [← HJ.out, itR, if_pos E1.out])⟩
        · have e' : (ix Z j == (k : Int)) = false := by simp [e]
          have E1 := Lib.hid e
          clear e
          go_wp2
          go_roundg gj
          case measure => omega
          case rel => exact ⟨rfl, j + 1, r, by omega, by go_num, rfl, by omega, by omega, Lib.hid (by rw [← HJ.out, itR, if_neg E1.out])⟩
      have hjn' : ¬ (j : Int) < (Z.length : Nat) := by omega
      obtain rfl : gk = 0 := by omega
      have N3 := Lib.hid (show r = cntI Z k (cntI Y k (cntI X k 0)) by rw [← N1.out, ← N2.out]; exact HJ.out)
      clear HJ hr1
      by_cases e : r = 3
      · have e' : (r == 3) = true := by simp [e]
        have HE := Lib.hid (show triM X Y Z k = true by unfold triM; rw [← N3.out]; exact decide_eq_true e)
        clear e
        go_wp2_with (at_builtin; refine Col.push2 rfl Try.underlying39 infoI rfl (.tmp 81) (.tmp 83) rfl _ rfl rfl hcol HE.out (by omega) ?_; intro v' w' hp; have HP := Lib.hid hp; clear hp)
        go_roundg g'
        case measure => omega
        case rel =>
          obtain ⟨hs1, hs2, l1, l2, l3⟩ := HX.out
          obtain ⟨hcol', hb, hst⟩ := HP.out
          have hne : ∀ g, g ∈ lb (.slice A1 X.length c1) ∨ g ∈ lb (.slice A2 Y.length c2) ∨ g ∈ lb (.slice A3 Z.length c3) → some g ≠ u9.ownBlock := fun g hg e => by
            have := HN.out g hg
            have := hs2 g e.symm
            omega
          exact ⟨k + 1, by omega, by go_num, Lib.hid ⟨Nat.le_trans hs1 hb.1, fun q hq => by
            rcases hst with e | e
            · rw [e] at hq; exact hs2 q hq
            · rw [e] at hq; injection hq with hq; exact .inr (by omega), hb.leaf' l1 (fun g hg => hne g (.inl hg)), hb.leaf' l2 (fun g hg => hne g (.inr (.inl hg))), hb.leaf' l3 (fun g hg => hne g (.inr (.inr hg)))⟩, hcol'⟩
      · have e' : (r == 3) = false := by simp [e]
        have HE := Lib.hid (show triM X Y Z k = false by unfold triM; rw [← N3.out]; exact decide_eq_false e)
        clear e
        go_wp2
        go_roundg g'
        case measure => omega
        case rel => exact ⟨k + 1, by omega, by go_num, HX, hcol.skip HE.out (Ext.refl _)⟩
    · have hin' : ¬ (k : Int) < (D.length : Nat) := by omega
      obtain rfl : gk = 0 := by omega
      go_wp2
      go_ret
      exact hcol.done
end Go.Proofs.Ytjaigidlpfdfiaa
