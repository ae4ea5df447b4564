/- What is proved: contracts and plain laws for what the later texts lean on (Mid2, Btw, Rds, Unl, Dls, Ult, Alive). Conditions: those of each. -/
import Derived.Test.YtnalcgcdohlfiaaGreatDoorPk
import Derived.Test.YtnalcgcdohlfiaaGreatDoorPa
namespace Go.Proofs.YtnalcgcdohlfiaaGreatDoor
open Go.RowKit

def btwV (D : List (List Int)) (a b : Int) : List Int := if pointB D a = true ∧ pointB D b = true then selN (btwB D a.toNat b.toNat) D.length else []
def midsV (D : List (List Int)) (a b c : Int) : List Int := if ptsB D [a, b, c] = true then midsL D a.toNat b.toNat c.toNat else []
theorem selN_len (p : Nat → Bool) (n : Nat) : (selN p n).length ≤ n := by
  rw [selN_eq, List.length_map]
  have := List.length_filter_le p (List.range n)
  simpa using this
theorem FreshI.nil (w : World) {W : World} (h : Ext w W) (A : Option Addr) (c : Nat) (hA : A = none ∨ c ≤ maxLen) (hc : c ≤ maxLen) : FreshI w [] (.returned (.slice A 0 c)) W :=
  ⟨_, rfl, Leaf.nil _ _ _ hc, fun g hg => by cases A <;> simp [lb] at hg, h⟩

set_option maxRecDepth 100000 in
set_option maxHeartbeats 2000000 in
theorem sBetweenOf_any (A : Option Addr) (cp : Nat) (D : List (List Int)) (a b : Int) (w : World) (h : Mat w A cp D) :
    Calls Tryz.prog 83 #[.slice A D.length cp, .int .i64 a, .int .i64 b] w (FreshI w (btwV D a b)) := by
  have hcm := h.2.1
  have hlc := h.1
  unfold maxLen at hcm
  have HC := Lib.hid (fun W (k : Mat W A cp D) => SpaceOk_any A cp D W k)
  have HM := Lib.hid h
  have HV := Lib.hid (show btwV D a b = if pointB D a = true ∧ pointB D b = true then selN (btwB D a.toNat b.toNat) D.length else [] from rfl)
  cases hs : spB D with
  | false =>
    have HF := Lib.hid (show btwV D a b = [] by rw [HV.out, if_neg]; intro hh; unfold pointB at hh; rw [hs] at hh; simp at hh)
    rw [hs] at HC
    clear hs
    go_enter Tryz.func83, Tryz.ntmps83
    go_wp2_with fail
    refine (HC.out _ (HM.out.ext (by repeat (first | exact Ext.refl _ | assumption | apply Ext.drewN' | apply Ext.alloc' | refine Ext.trans ?_ (by assumption))))).mono ?_
    rintro e w1 ⟨rfl, m1, rfl⟩
    go_wp2
    go_ret
    rw [HF.out]
    exact FreshI.nil w (by repeat (first | exact Ext.refl _ | assumption | apply Ext.drewN' | apply Ext.alloc' | refine Ext.trans ?_ (by assumption))) _ _ (.inr (Nat.zero_le _)) (Nat.zero_le _)
  | true =>
    have hpt : ∀ x : Int, inB x 0 (D.length - 1) = pointB D x := fun x => by
      unfold inB pointB
      rw [hs, Bool.true_and]
      exact b_dd (by omega)
    cases ea : inB a 0 (D.length - 1) with
    | false =>
      have HF := Lib.hid (show btwV D a b = [] by rw [HV.out, if_neg]; rw [← hpt a, ea]; simp)
      rw [hs] at HC
      clear hs hpt
      go_enter Tryz.func83, Tryz.ntmps83
      go_wp2_with fail
      refine (HC.out _ (HM.out.ext (by repeat (first | exact Ext.refl _ | assumption | apply Ext.drewN' | apply Ext.alloc' | refine Ext.trans ?_ (by assumption))))).mono ?_
      rintro e w1 ⟨rfl, m1, rfl⟩
      go_wp2_with fail
      refine (l1In_any _ _ _ _).mono ?_
      rintro e w2 ⟨rfl, rfl⟩
      go_wp2
      go_ret
      rw [HF.out]
      exact FreshI.nil w (by repeat (first | exact Ext.refl _ | assumption | apply Ext.drewN' | apply Ext.alloc' | refine Ext.trans ?_ (by assumption))) _ _ (.inr (Nat.zero_le _)) (Nat.zero_le _)
    | true =>
    cases eb : inB b 0 (D.length - 1) with
    | false =>
      have HF := Lib.hid (show btwV D a b = [] by rw [HV.out, if_neg]; rw [← hpt b, eb]; simp)
      rw [hs] at HC
      clear hs hpt
      go_enter Tryz.func83, Tryz.ntmps83
      go_wp2_with fail
      refine (HC.out _ (HM.out.ext (by repeat (first | exact Ext.refl _ | assumption | apply Ext.drewN' | apply Ext.alloc' | refine Ext.trans ?_ (by assumption))))).mono ?_
      rintro e w1 ⟨rfl, m1, rfl⟩
      go_wp2_with fail
      refine (l1In_any _ _ _ _).mono ?_
      rintro e w2 ⟨rfl, rfl⟩
      go_wp2_with fail
      refine (l1In_any _ _ _ _).mono ?_
      rintro e w3 ⟨rfl, rfl⟩
      go_wp2
      go_ret
      rw [HF.out]
      exact FreshI.nil w (by repeat (first | exact Ext.refl _ | assumption | apply Ext.drewN' | apply Ext.alloc' | refine Ext.trans ?_ (by assumption))) _ _ (.inr (Nat.zero_le _)) (Nat.zero_le _)
    | true =>
      have pa := hpt a
      have pb := hpt b
      rw [ea] at pa
      rw [eb] at pb
      obtain ⟨_, a', rfl, ha⟩ := pointB_parts pa.symm
      obtain ⟨_, b', rfl, hb⟩ := pointB_parts pb.symm
      have HF := Lib.hid (show btwV D a' b' = selN (btwB D a' b') D.length by rw [HV.out, if_pos ⟨pa.symm, pb.symm⟩]; rfl)
      obtain ⟨⟨hn1, hn6⟩, hsq, hcells⟩ := farB_parts (spB_far hs)
      obtain ⟨bk, o, rc, rb, ro, hA, hrow, -, hcell, -⟩ := h.square hsq
      obtain rfl := hA (by omega)
      rw [hs] at HC
      have ha' : (a' : Int) < (D.length : Nat) := by omega
      have hb' : (b' : Int) < (D.length : Nat) := by omega
      clear hs hpt pa pb HV hA
      go_enter Tryz.func83, Tryz.ntmps83
      go_wp2_with fail
      refine (HC.out _ (HM.out.ext (by repeat (first | exact Ext.refl _ | assumption | apply Ext.drewN' | apply Ext.alloc' | refine Ext.trans ?_ (by assumption))))).mono ?_
      rintro e w1 ⟨rfl, m1, rfl⟩
      go_wp2_with fail
      refine (l1In_any _ _ _ _).mono ?_
      rintro e w2 ⟨rfl, rfl⟩
      go_wp2_with fail
      refine (l1In_any _ _ _ _).mono ?_
      rintro e w3 ⟨rfl, rfl⟩
      go_wp2
      clear ea eb
      go_loopg [7, 8] D.length (fun g s7 s8 wr => ∃ (i : Nat), i + g = D.length ∧ s8 = .int .i64 i ∧ Col (btwB D a' b') w wr s7 g i (selN (btwB D a' b') D.length))
      case atStart => exact ⟨0, by omega, rfl, (Col.start (Ext.refl _)).on (Ext.drewN _ _)⟩
      case round =>
        obtain ⟨x, hi, rfl, hcol⟩ := hrel
        by_cases hin : x < D.length
        · obtain ⟨g', rfl⟩ : ∃ g', gk = g' + 1 := ⟨gk - 1, by omega⟩
          have hin' : (x : Int) < (D.length : Nat) := by omega
          have hx := hcol.x
          have r1 := hx.cell (hrow a' ha)
          have r3 := hx.cell (hrow x hin)
          have c1 := hx.cell (hcell a' ha x hin)
          have c2 := hx.cell (hcell x hin b' hb)
          have c3 := hx.cell (hcell a' ha b' hb)
          obtain ⟨p1, q1, -, -⟩ := hcells a' ha x hin
          obtain ⟨p2, q2, -, -⟩ := hcells x hin b' hb
          clear hrow hcell hcells hx
          have Hdef := Lib.hid (show btwB D a' b' x = decide (at2 D a' x + at2 D x b' = at2 D a' b') from rfl)
          cases e1 : (at2 D a' x + at2 D x b' == at2 D a' b') with
          | false =>
            have HE := Lib.hid (show btwB D a' b' x = false by rw [Hdef.out, decide_eq_false (by simpa using e1)])
            go_wp2
            go_quiet (fail)
            go_wp2
            go_roundg g'
            case measure => omega
            case rel => exact ⟨x + 1, by omega, by go_num, hcol.skip HE.out (Ext.drewN _ _)⟩
          | true =>
            have HE := Lib.hid (show btwB D a' b' x = true by rw [Hdef.out, decide_eq_true (beq_iff_eq.1 e1)])
            go_wp2
            go_quiet (fail)
            have hcol2 := hcol.on (Ext.drewN _ nq)
            go_wp2_with (at_builtin; refine Col.push rfl Tryz.underlying47 infoI rfl (.tmp 59) (.tmp 61) rfl _ rfl rfl hcol2 HE.out (by omega) ?_; intro v' w' hcol')
            go_roundg g'
            case measure => omega
            case rel => exact ⟨x + 1, by omega, by go_num, hcol'⟩
        · have hin' : ¬ (x : Int) < (D.length : Nat) := by omega
          obtain rfl : gk = 0 := by omega
          clear hrow hcell hcells
          go_wp2
          go_ret
          rw [HF.out]
          exact hcol.done

theorem ints_at {w : World} {A : Option Addr} {c b o : Nat} {xs : List Int} (h : Ints w A c xs) (hA : 0 < xs.length → A = some ⟨b, o, none⟩) : ∀ j, j < xs.length → w.cell? ⟨b, o + j, none⟩ = some (.int .i64 (ix xs j)) := by
  obtain ⟨_, _, b', o', hA', hc⟩ := h
  intro j hj
  have e := (hA (by omega)).symm.trans (hA' (by omega))
  injection e with e
  injection e with e1 e2
  subst e1; subst e2
  exact hc j hj

/-- how often a number is among others, on top of so many -/
def cntI (xs : List Int) (k : Int) (n0 : Int) : Int := itR (fun j n => if ix xs j = k then n + 1 else n) xs.length 0 n0
def triM (X Y Z : List Int) (k : Nat) : Bool := decide (cntI Z k (cntI Y k (cntI X k 0)) = 3)

end Go.Proofs.YtnalcgcdohlfiaaGreatDoor
namespace Go.Proofs.YtnalcgcdohlfiaaGreatDoor
open Go.RowKit
set_option maxRecDepth 100000 in
set_option maxHeartbeats 2000000 in
theorem betweenOf_any (A : Option Addr) (cp : Nat) (D : List (List Int)) (a b : Nat) (w : World) (h : Mat w A cp D) (hs : spB D = true) (ha : a < D.length) (hb : b < D.length) :
    Calls Tryz.prog 74 #[.slice A D.length cp, .int .i64 a, .int .i64 b] w (FreshI w (selN (btwB D a b) D.length)) := by
  obtain ⟨⟨hn1, hn6⟩, hsq, hcells⟩ := farB_parts (spB_far hs)
  clear hs
  obtain ⟨bk, o, rc, rb, ro, hA, hrow, -, hcell, -⟩ := h.square hsq
  obtain rfl := hA (by omega)
  have ha' : (a : Int) < (D.length : Nat) := by omega
  have hb' : (b : Int) < (D.length : Nat) := by omega
  go_enter Tryz.func74, Tryz.ntmps74
  go_wp2
  go_loopg [7, 12] D.length (fun g s7 s12 wr => ∃ (i : Nat), i + g = D.length ∧ s12 = .int .i64 i ∧ Col (btwB D a b) w wr s7 g i (selN (btwB D a b) D.length))
  case atStart => exact ⟨0, by omega, rfl, Col.start (Ext.refl _)⟩
  case round =>
    obtain ⟨x, hi, rfl, hcol⟩ := hrel
    by_cases hin : x < D.length
    · obtain ⟨g', rfl⟩ : ∃ g', gk = g' + 1 := ⟨gk - 1, by omega⟩
      have hin' : (x : Int) < (D.length : Nat) := by omega
      have hx := hcol.x
      have r1 := hx.cell (hrow a ha)
      have r3 := hx.cell (hrow x hin)
      have c1 := hx.cell (hcell a ha x hin)
      have c2 := hx.cell (hcell x hin b hb)
      have c3 := hx.cell (hcell a ha b hb)
      obtain ⟨p1, q1, -, -⟩ := hcells a ha x hin
      obtain ⟨p2, q2, -, -⟩ := hcells x hin b hb
      clear hrow hcell hcells hx
      have Hdef := Lib.hid (show btwB D a b x = decide (at2 D a x + at2 D x b = at2 D a b) from rfl)
      cases e1 : (at2 D a x + at2 D x b == at2 D a b) with
      | false =>
        have HE := Lib.hid (show btwB D a b x = false by rw [Hdef.out, decide_eq_false (by simpa using e1)])
        go_wp2
        go_quiet (fail)
        go_wp2
        go_roundg g'
        case measure => omega
        case rel => exact ⟨x + 1, by omega, by go_num, hcol.skip HE.out (Ext.drewN _ _)⟩
      | true =>
        have HE := Lib.hid (show btwB D a b x = true by rw [Hdef.out, decide_eq_true (beq_iff_eq.1 e1)])
        go_wp2
        go_quiet (fail)
        have hcol2 := hcol.on (Ext.drewN _ nq)
        go_wp2_with (at_builtin; refine Col.push rfl Tryz.underlying47 infoI rfl (.tmp 38) (.tmp 40) rfl _ rfl rfl hcol2 HE.out (by omega) ?_; intro v' w' hcol')
        go_roundg g'
        case measure => omega
        case rel => exact ⟨x + 1, by omega, by go_num, hcol'⟩
    · have hin' : ¬ (x : Int) < (D.length : Nat) := by omega
      obtain rfl : gk = 0 := by omega
      clear hrow hcell hcells
      go_wp2
      go_ret
      exact hcol.done
end Go.Proofs.YtnalcgcdohlfiaaGreatDoor
namespace Go.Proofs.YtnalcgcdohlfiaaGreatDoor
open Go.RowKit
theorem maxI_ge {xs : List Int} {j : Nat} (hj : j < xs.length) : ix xs j ≤ maxI xs := by
  have := itR_inv (f := fun k s => max s (ix xs k)) (fun k (s : Int) => ∀ j, j < k → ix xs j ≤ s) (xs.length - 1) 1 (ix xs 0) (fun j hj => by
    have : j = 0 := by omega
    subst this; omega) (fun k s _ hk h j hj => by
    show ix xs j ≤ max s (ix xs k)
    by_cases e : j = k
    · subst e; omega
    · have := h j (by omega); omega)
  exact this j (by omega)
theorem maxI_bd {xs : List Int} {a b : Int} (h0 : 0 < xs.length) (h : ∀ j, j < xs.length → a ≤ ix xs j ∧ ix xs j ≤ b) : a ≤ maxI xs ∧ maxI xs ≤ b :=
  itR_inv (f := fun k s => max s (ix xs k)) (fun _ (s : Int) => a ≤ s ∧ s ≤ b) (xs.length - 1) 1 (ix xs 0) (h 0 h0) (fun k s h1 hk hs => by
    have := h k (by omega)
    show a ≤ max s (ix xs k) ∧ max s (ix xs k) ≤ b
    omega)
end Go.Proofs.YtnalcgcdohlfiaaGreatDoor
namespace Go.Proofs.YtnalcgcdohlfiaaGreatDoor
open Go.RowKit
/-- m is the greatest of S, at least t -/
def MostOr (m t : Int) (S : Int → Prop) : Prop := t ≤ m ∧ (∀ x, S x → x ≤ m) ∧ (m = t ∨ S m)
theorem itR_most {f : Nat → Int → Int} {S : Nat → Int → Prop} (n : Nat) (s : Int) (hf : ∀ k, k < n → ∀ s, MostOr (f k s) s (S k)) : MostOr (itR f n 0 s) s (fun x => ∃ k, k < n ∧ S k x) := by
  have := itR_inv (f := f) (fun j (t : Int) => MostOr t s (fun x => ∃ k, k < j ∧ S k x)) n 0 s ⟨Int.le_refl _, fun x ⟨k, hk, _⟩ => absurd hk (by omega), .inl rfl⟩ (fun j t _ hj h => by
    obtain ⟨h1, h2, h3⟩ := h
    obtain ⟨g1, g2, g3⟩ := hf j (by omega) t
    refine ⟨by omega, fun x hx => ?_, ?_⟩
    · obtain ⟨k, hk, hx⟩ := hx
      by_cases e : k = j
      · subst e; exact g2 x hx
      · have := h2 x ⟨k, by omega, hx⟩; omega
    · rcases g3 with g3 | g3
      · rcases h3 with h3 | ⟨k, hk, h3⟩
        · left; rw [g3]; exact h3
        · right; rw [g3]; exact ⟨k, by omega, h3⟩
      · right; exact ⟨j, by omega, g3⟩)
  simpa using this
def okP (D E P : List (List Int)) : Prop := ∀ k, k < P.length → (row P k).length = 2 ∧ (0 ≤ at2 P k 0 ∧ at2 P k 0 < D.length) ∧ (0 ≤ at2 P k 1 ∧ at2 P k 1 < E.length)
def dif (D E P : List (List Int)) (k j : Nat) : Int := at2 D (at2 P k 0).toNat (at2 P j 0).toNat - at2 E (at2 P k 1).toNat (at2 P j 1).toNat
def dStep (D E P : List (List Int)) (k j : Nat) (s : Int) : Int := max (max s (dif D E P k j)) (-(dif D E P k j))
def un1 (D E P : List (List Int)) (k : Nat) : Nat → Nat → Int → Int := itR (fun j s => dStep D E P k j s)
def unlI (D E P : List (List Int)) : Int := itR (fun k s => un1 D E P k P.length 0 s) P.length 0 0
def unlS (D E P : List (List Int)) : Int := itR (fun k s => un1 D E P k k 0 s) P.length 0 0
theorem dStep_most (D E P : List (List Int)) (k j : Nat) (s : Int) : MostOr (dStep D E P k j s) s (fun x => x = dif D E P k j ∨ x = -(dif D E P k j)) := by
  unfold dStep
  refine ⟨by omega, fun x hx => by rcases hx with rfl | rfl <;> omega, ?_⟩
  omega
theorem unlI_most (D E P : List (List Int)) : MostOr (unlI D E P) 0 (fun x => ∃ k, k < P.length ∧ ∃ j, j < P.length ∧ (x = dif D E P k j ∨ x = -(dif D E P k j))) :=
  itR_most (S := fun k x => ∃ j, j < P.length ∧ (x = dif D E P k j ∨ x = -(dif D E P k j))) _ _ fun k _ _ => itR_most (S := fun j x => x = dif D E P k j ∨ x = -(dif D E P k j)) _ _ fun j _ s => dStep_most D E P k j s
theorem unlS_most (D E P : List (List Int)) : MostOr (unlS D E P) 0 (fun x => ∃ k, k < P.length ∧ ∃ j, j < k ∧ (x = dif D E P k j ∨ x = -(dif D E P k j))) :=
  itR_most (S := fun k x => ∃ j, j < k ∧ (x = dif D E P k j ∨ x = -(dif D E P k j))) _ _ fun k _ _ => itR_most (S := fun j x => x = dif D E P k j ∨ x = -(dif D E P k j)) _ _ fun j _ s => dStep_most D E P k j s
theorem dif_sym {D E P : List (List Int)} (hd : farB D = true) (he : farB E = true) (hP : okP D E P) {k j : Nat} (hk : k < P.length) (hj : j < P.length) : dif D E P k j = dif D E P j k ∧ dif D E P k k = 0 := by
  obtain ⟨-, ⟨a0, a1⟩, ⟨b0, b1⟩⟩ := hP k hk
  obtain ⟨-, ⟨c0, c1⟩, ⟨d0, d1⟩⟩ := hP j hj
  have h1 := at2_sym hd (i := (at2 P k 0).toNat) (k := (at2 P j 0).toNat) (by omega) (by omega)
  have h2 := at2_sym he (i := (at2 P k 1).toNat) (k := (at2 P j 1).toNat) (by omega) (by omega)
  have h3 := ((farB_parts hd).2.2 (at2 P k 0).toNat (by omega) (at2 P k 0).toNat (by omega)).2.2.2.2 rfl
  have h4 := ((farB_parts he).2.2 (at2 P k 1).toNat (by omega) (at2 P k 1).toNat (by omega)).2.2.2.2 rfl
  unfold dif
  omega
theorem unl_same {D E P : List (List Int)} (hd : farB D = true) (he : farB E = true) (hP : okP D E P) : unlS D E P = unlI D E P := by
  obtain ⟨a1, a2, a3⟩ := unlI_most D E P
  obtain ⟨b1, b2, b3⟩ := unlS_most D E P
  refine Int.le_antisymm ?_ ?_
  · rcases b3 with b3 | ⟨k, hk, j, hj, hx⟩
    · omega
    · exact a2 _ ⟨k, hk, j, by omega, hx⟩
  · rcases a3 with a3 | ⟨k, hk, j, hj, hx⟩
    · omega
    · obtain ⟨s1, s2⟩ := dif_sym hd he hP hk hj
      rcases Nat.lt_trichotomy j k with q | q | q
      · exact b2 _ ⟨k, hk, j, q, hx⟩
      · subst q; rw [s2] at hx; omega
      · rw [s1] at hx; exact b2 _ ⟨j, hj, k, q, hx⟩
theorem pair_cells {w : World} {A : Option Addr} {c : Nat} {R : List (List Int)} (h : Mat w A c R) (h2 : ∀ i, i < R.length → (row R i).length = 2) :
    ∃ (b o : Nat) (rc rb ro : Nat → Nat), (0 < R.length → A = some ⟨b, o, none⟩) ∧
      (∀ i, i < R.length → w.cell? ⟨b, o + i, none⟩ = some (.slice (some ⟨rb i, ro i, none⟩) 2 (rc i))) ∧
      (∀ i, i < R.length → w.cell? ⟨rb i, ro i, none⟩ = some (.int .i64 (at2 R i 0)) ∧ w.cell? ⟨rb i, ro i + 1, none⟩ = some (.int .i64 (at2 R i 1))) ∧ (∀ i, i < R.length → 2 ≤ rc i) := by
  obtain ⟨b, o, Q, rc, rb, ro, hA, k1, k2, k3, k4, -⟩ := h.parts
  refine ⟨b, o, rc, rb, ro, hA, fun i hi => ?_, fun i hi => ⟨?_, ?_⟩, fun i hi => ?_⟩
  · have e := h2 i hi
    rw [k1 i hi, k3 i hi (by omega), e]
  · have e := h2 i hi
    have := k4 i hi 0 (by omega)
    rwa [Nat.add_zero] at this
  · have e := h2 i hi
    exact k4 i hi 1 (by omega)
  · have e := h2 i hi
    have := (k2 i hi).1
    omega
/-- the greatest distance -/
def widI (D : List (List Int)) : Int := itR (fun i s => max s (maxI (row D i))) D.length 0 0
theorem widI_most (D : List (List Int)) : MostOr (widI D) 0 (fun x => ∃ i, i < D.length ∧ x = maxI (row D i)) :=
  itR_most (S := fun i x => x = maxI (row D i)) _ _ fun i _ s => ⟨by show s ≤ max s _; omega, fun x hx => by show x ≤ max s _; omega, by show max s _ = s ∨ max s _ = _; omega⟩
set_option maxRecDepth 100000 in
set_option maxHeartbeats 2000000 in
theorem iWidthOf_any (A : Option Addr) (cp : Nat) (D : List (List Int)) (w : World) (h : Mat w A cp D) (hs : spB D = true) :
    Calls Tryz.prog 64 #[.slice A D.length cp] w fun e w' => e = .returned (.int .i64 (widI D)) ∧ ∃ m, w' = w.drewN m := by
  have HC := Lib.hid (isSpace_any A cp D w h)
  rw [hs] at HC
  obtain ⟨⟨hn1, hn6⟩, hsq, hcells⟩ := farB_parts (spB_far hs)
  obtain ⟨bk, o, rc, rb, ro, hA, hrow, hlen, hcell, hints⟩ := h.square hsq
  obtain rfl := hA (by omega)
  have HR := Lib.hid hrow
  have HMX := Lib.hid (fun (i : Nat) (hi : i < D.length) W (q : Ext w W) => (show Calls Tryz.prog 97 #[.slice (some ⟨rb i, ro i, none⟩) D.length (rc i)] W fun e w' => e = .returned (.int .i64 (maxI (row D i))) ∧ ∃ m, w' = W.drewN m from by
    have := slicesMax_any (some ⟨rb i, ro i, none⟩) (rc i) (row D i) W ((hints i hi).ext q) (by rw [hsq i hi]; omega)
    rw [hsq i hi] at this
    exact this))
  have HB := Lib.hid (fun (i : Nat) (hi : i < D.length) => maxI_bd (xs := row D i) (a := 0) (b := 60) (by rw [hsq i hi]; omega) fun j hj => by
    rw [hsq i hi] at hj
    have := hcells i hi j hj
    exact ⟨this.1, this.2.1⟩)
  clear hs hsq hcells h hrow hlen hcell hints hA
  go_enter Tryz.func64, Tryz.ntmps64
  go_wp2_with fail
  refine (HC.out).mono ?_
  rintro e w1 ⟨rfl, m1, rfl⟩
  go_wp2
  go_loopg [11, 3] (D.length) (fun g s11 s3 wr => ∃ (i m : Nat) (t : Int), i + g = D.length ∧ s11 = .int .i64 i ∧ s3 = .int .i64 t ∧ wr = w.drewN m ∧ 0 ≤ t ∧ t ≤ 60 ∧ Hid (itR (fun i s => max s (maxI (row D i))) g i t = widI D))
  case atStart => exact ⟨0, _, _, by omega, rfl, rfl, by first | rfl | exact drewN_0 _ | exact drewN_add _ _ _, by omega, by omega, Lib.hid (rfl)⟩
  case round =>
    obtain ⟨i, mi, t, hi, rfl, rfl, rfl, ht, ht', Hi⟩ := hrel
    by_cases hini : i < D.length
    · obtain ⟨gi, rfl⟩ : ∃ g', gk = g' + 1 := ⟨gk - 1, by omega⟩
      have hini' : (i : Int) < (D.length : Nat) := by omega
      have r1 := HR.out i hini
      obtain ⟨m0, m60⟩ := HB.out i hini
      have Hst := Lib.hid (show itR (fun i s => max s (maxI (row D i))) (gi + 1) i t = itR (fun i s => max s (maxI (row D i))) gi (i + 1) (max t (maxI (row D i))) from rfl)
      have HMk := Lib.hid (HMX.out i hini)
      obtain ⟨M, hM⟩ : ∃ M, maxI (row D i) = M := ⟨_, rfl⟩
      rw [hM] at m0 m60 Hst HMk
      clear hM
      go_wp2_with fail
      refine (HMk.out _ (Ext.drewN _ _)).mono ?_
      rintro e w2 ⟨rfl, m2, rfl⟩
      by_cases hle : t < M
      · have HE := Lib.hid (show max t M = M by omega)
        go_wp2
        go_roundg gi
        case measure => omega
        case rel => exact ⟨i + 1, _, M, by omega, by go_num, by first | rfl | go_num, by first | rfl | exact drewN_0 _ | exact drewN_add _ _ _, by omega, by omega, Lib.hid (by rw [← Hi.out, Hst.out, HE.out])⟩
      · have HE := Lib.hid (show max t M = t by omega)
        go_wp2
        go_roundg gi
        case measure => omega
        case rel => exact ⟨i + 1, _, t, by omega, by go_num, by first | rfl | go_num, by first | rfl | exact drewN_0 _ | exact drewN_add _ _ _, by omega, by omega, Lib.hid (by rw [← Hi.out, Hst.out, HE.out])⟩
    · have hini' : ¬ (i : Int) < (D.length : Nat) := by omega
      obtain rfl : gk = 0 := by omega
      go_wp2
      go_ret
      exact ⟨ret_int (by rw [← Hi.out]; rfl), _, by first | rfl | exact drewN_add _ _ _⟩
end Go.Proofs.YtnalcgcdohlfiaaGreatDoor
namespace Go.Proofs.YtnalcgcdohlfiaaGreatDoor
open Go.RowKit
/-- kind and numbers of the deed i -/
def dk (ds : List (Int × List Int)) (i : Nat) : Int := (ds.getD i (0, [])).1
def dx (ds : List (Int × List Int)) (i : Nat) : List Int := (ds.getD i (0, [])).2
/-- a list of deeds to be read -/
def DeedsM (w : World) (A : Option Addr) (c : Nat) (ds : List (Int × List Int)) : Prop :=
  ds.length ≤ c ∧ c ≤ maxLen ∧ ∃ b o, (0 < ds.length → A = some ⟨b, o, none⟩) ∧ ∀ i, i < ds.length → ∃ X cx, w.cell? ⟨b, o + i * 2, none⟩ = some (.int .i64 (dk ds i)) ∧ w.cell? ⟨b, o + i * 2 + 1, none⟩ = some (.slice X (dx ds i).length cx) ∧ Ints w X cx (dx ds i)
theorem DeedsM.ext {w w' : World} {A : Option Addr} {c : Nat} {ds : List (Int × List Int)} (h : DeedsM w A c ds) (k : Ext w w') : DeedsM w' A c ds := by
  obtain ⟨h1, h2, b, o, h3, h4⟩ := h
  refine ⟨h1, h2, b, o, h3, fun i hi => ?_⟩
  obtain ⟨X, cx, e1, e2, e3⟩ := h4 i hi
  exact ⟨X, cx, k.cell e1, k.cell e2, e3.ext k⟩
theorem DeedsM.parts {w : World} {A : Option Addr} {c : Nat} {ds : List (Int × List Int)} (h : DeedsM w A c ds) :
    ∃ (b o : Nat) (RX : Nat → Option Addr) (rc : Nat → Nat), (0 < ds.length → A = some ⟨b, o, none⟩) ∧ (∀ i, i < ds.length → w.cell? ⟨b, o + i * 2, none⟩ = some (.int .i64 (dk ds i))) ∧
      (∀ i, i < ds.length → w.cell? ⟨b, o + i * 2 + 1, none⟩ = some (.slice (RX i) (dx ds i).length (rc i))) ∧ ∀ i, i < ds.length → Ints w (RX i) (rc i) (dx ds i) := by
  obtain ⟨h1, h2, b, o, h3, h4⟩ := h
  have h5 : ∀ i, ∃ p : Option Addr × Nat, i < ds.length → w.cell? ⟨b, o + i * 2, none⟩ = some (.int .i64 (dk ds i)) ∧ w.cell? ⟨b, o + i * 2 + 1, none⟩ = some (.slice p.1 (dx ds i).length p.2) ∧ Ints w p.1 p.2 (dx ds i) := by
    intro i
    by_cases hi : i < ds.length
    · obtain ⟨X, cx, q⟩ := h4 i hi
      exact ⟨(X, cx), fun _ => q⟩
    · exact ⟨(none, 0), fun q => absurd q hi⟩
  obtain ⟨p, hp⟩ := Classical.axiomOfChoice h5
  exact ⟨b, o, fun i => (p i).1, fun i => (p i).2, h3, fun i hi => (hp i hi).1, fun i hi => (hp i hi).2.1, fun i hi => (hp i hi).2.2⟩
end Go.Proofs.YtnalcgcdohlfiaaGreatDoor
namespace Go.Proofs.YtnalcgcdohlfiaaGreatDoor
open Go.RowKit
end Go.Proofs.YtnalcgcdohlfiaaGreatDoor
namespace Go.Proofs.YtnalcgcdohlfiaaGreatDoor
open Go.RowKit
theorem mat_cells {w : World} {b c : Nat} {D : List (List Int)} {cs : Array Value} {t : TypeId} (hb : w.heap[b]? = some (.cells cs t (0, 0))) (h1 : D.length ≤ c) (h2 : c ≤ maxLen)
    (hc : ∀ i, i < D.length → ∃ q ds, cs[i]? = some (.slice (some ⟨q, 0, none⟩) (row D i).length (row D i).length) ∧ w.heap[q]? = some (.cells ds 3 (0, 0)) ∧ (row D i).length ≤ 1000 ∧ ∀ j, j < (row D i).length → ds[j]? = some (.int .i64 (ix (row D i) j))) :
    Mat w (some ⟨b, 0, none⟩) c D := by
  refine ⟨h1, h2, b, 0, fun _ => rfl, fun i hi => ?_⟩
  obtain ⟨q, ds, e1, e2, e3, e4⟩ := hc i hi
  exact ⟨_, _, by rw [Nat.zero_add, cell_cells hb, e1], Nat.le_refl _, by unfold maxLen; omega, q, 0, fun _ => rfl, fun j hj => by rw [Nat.zero_add, cell_cells e2, e4 j hj]⟩
theorem two_mat (W : World) :
    Mat (((W.alloc (.cells #[.int .i64 0, .int .i64 2] 3)).alloc (.cells #[.int .i64 2, .int .i64 0] 3)).alloc (.cells #[.slice (some ⟨W.heap.size, 0, none⟩) 2 2, .slice (some ⟨W.heap.size + 1, 0, none⟩) 2 2] 47))
      (some ⟨W.heap.size + 1 + 1, 0, none⟩) 2 [[0, 2], [2, 0]] := by
  obtain ⟨W1, h1⟩ : ∃ W1, W.alloc (.cells #[.int .i64 0, .int .i64 2] 3) = W1 := ⟨_, rfl⟩
  obtain ⟨W2, h2⟩ : ∃ W2, W1.alloc (.cells #[.int .i64 2, .int .i64 0] 3) = W2 := ⟨_, rfl⟩
  have s1 : W1.heap.size = W.heap.size + 1 := by rw [← h1]; simp
  have s2 : W2.heap.size = W.heap.size + 1 + 1 := by rw [← h2]; simp [s1]
  have a1 : W1.heap[W.heap.size]? = some (.cells #[.int .i64 0, .int .i64 2] 3 (0, 0)) := by rw [← h1]; exact heap_alloc_new W _
  have a2 : W2.heap[W.heap.size + 1]? = some (.cells #[.int .i64 2, .int .i64 0] 3 (0, 0)) := by rw [← h2, ← s1]; exact heap_alloc_new W1 _
  rw [h1, h2, ← s2]
  refine mat_cells (heap_alloc_new W2 _) (Nat.le_refl _) (by unfold maxLen; decide) fun i hi => ?_
  have b1 : ∀ o, (W2.alloc o).heap[W.heap.size]? = some (.cells #[.int .i64 0, .int .i64 2] 3 (0, 0)) := fun o => by
    rw [Below.heap_alloc W2 o _ (by omega), ← h2, Below.heap_alloc W1 _ _ (by omega)]; exact a1
  have b2 : ∀ o, (W2.alloc o).heap[W.heap.size + 1]? = some (.cells #[.int .i64 2, .int .i64 0] 3 (0, 0)) := fun o => by
    rw [Below.heap_alloc W2 o _ (by omega)]; exact a2
  match i, hi with
  | 0, _ => exact ⟨W.heap.size, _, rfl, b1 _, by decide, fun j hj => by
      match j, hj with
      | 0, _ => rfl
      | 1, _ => rfl⟩
  | 1, _ => exact ⟨W.heap.size + 1, _, rfl, b2 _, by decide, fun j hj => by
      match j, hj with
      | 0, _ => rfl
      | 1, _ => rfl⟩
theorem one_mat (W : World) :
    Mat ((W.alloc (.cells #[.int .i64 1] 3)).alloc (.cells #[.slice (some ⟨W.heap.size, 0, none⟩) 1 1] 47)) (some ⟨W.heap.size + 1, 0, none⟩) 1 [[1]] := by
  obtain ⟨W1, h1⟩ : ∃ W1, W.alloc (.cells #[.int .i64 1] 3) = W1 := ⟨_, rfl⟩
  have s1 : W1.heap.size = W.heap.size + 1 := by rw [← h1]; simp
  have a1 : W1.heap[W.heap.size]? = some (.cells #[.int .i64 1] 3 (0, 0)) := by rw [← h1]; exact heap_alloc_new W _
  rw [h1, ← s1]
  refine mat_cells (heap_alloc_new W1 _) (Nat.le_refl _) (by unfold maxLen; decide) fun i hi => ?_
  match i, hi with
  | 0, _ => exact ⟨W.heap.size, _, rfl, by rw [Below.heap_alloc W1 _ _ (by omega)]; exact a1, by decide, fun j hj => by
      match j, hj with
      | 0, _ => rfl⟩
theorem sp_two : spB [[0, 2], [2, 0]] = true := by decide +kernel
theorem sp_one : spB [[1]] = false := by decide +kernel
set_option maxHeartbeats 1000000 in
theorem iSpaceOk_any (A : Option Addr) (c : Nat) (D : List (List Int)) (w : World) (h : Mat w A c D) :
    Calls Tryz.prog 25 #[.slice A D.length c] w fun e w' => e = .returned (.bool (spB D)) ∧ ∃ m, w' = w.drewN m := by
  have HC := Lib.hid (isSpace_any A c D w h)
  go_enter Tryz.func25, Tryz.ntmps25
  go_wp2_with (go_at_call 31; refine HC.out.mono ?_; rintro e w' ⟨rfl, m0, rfl⟩)
  go_ret
  exact ⟨rfl, _, rfl⟩
theorem alive_two (w : World) : Calls Tryz.prog 25 #[.slice (some ⟨w.heap.size + 1 + 1, 0, none⟩) 2 2] (((w.alloc (.cells #[.int .i64 0, .int .i64 2] 3)).alloc (.cells #[.int .i64 2, .int .i64 0] 3)).alloc (.cells #[.slice (some ⟨w.heap.size, 0, none⟩) 2 2, .slice (some ⟨w.heap.size + 1, 0, none⟩) 2 2] 47))
    fun e w' => e = .returned (.bool true) ∧ ∃ m, w' = (((w.alloc (.cells #[.int .i64 0, .int .i64 2] 3)).alloc (.cells #[.int .i64 2, .int .i64 0] 3)).alloc (.cells #[.slice (some ⟨w.heap.size, 0, none⟩) 2 2, .slice (some ⟨w.heap.size + 1, 0, none⟩) 2 2] 47)).drewN m := by
  have h := iSpaceOk_any _ _ _ _ (two_mat w)
  rw [sp_two] at h
  exact h
theorem alive_one (w : World) : Calls Tryz.prog 25 #[.slice (some ⟨w.heap.size + 1, 0, none⟩) 1 1] ((w.alloc (.cells #[.int .i64 1] 3)).alloc (.cells #[.slice (some ⟨w.heap.size, 0, none⟩) 1 1] 47))
    fun e w' => e = .returned (.bool false) ∧ ∃ m, w' = ((w.alloc (.cells #[.int .i64 1] 3)).alloc (.cells #[.slice (some ⟨w.heap.size, 0, none⟩) 1 1] 47)).drewN m := by
  have h := iSpaceOk_any _ _ _ _ (one_mat w)
  rw [sp_one] at h
  exact h
set_option maxHeartbeats 1000000 in
theorem alive_any (w : World) : Calls Tryz.prog 11 #[] w fun e w' => e = .returned (.bool true) ∧ Ext w w' := by
  go_enter Tryz.func11, Tryz.ntmps11
  go_wp2_with fail
  refine (alive_two w).mono ?_
  rintro e w1 ⟨rfl, m1, hw1⟩
  have hx1 : Ext w w1 := by rw [hw1]; exact (by repeat (first | exact Ext.refl _ | assumption | apply Ext.drewN' | apply Ext.alloc' | refine Ext.trans ?_ (by assumption)))
  clear hw1
  go_wp2_with fail
  refine (alive_one w1).mono ?_
  rintro e w2 ⟨rfl, m2, hw2⟩
  have hx2 : Ext w w2 := by rw [hw2]; exact (by repeat (first | exact Ext.refl _ | assumption | apply Ext.drewN' | apply Ext.alloc' | refine Ext.trans ?_ (by assumption)))
  clear hw2
  go_wp2
  go_ret
  exact ⟨rfl, (by repeat (first | exact Ext.refl _ | assumption | apply Ext.drewN' | apply Ext.alloc' | refine Ext.trans ?_ (by assumption)))⟩
end Go.Proofs.YtnalcgcdohlfiaaGreatDoor
