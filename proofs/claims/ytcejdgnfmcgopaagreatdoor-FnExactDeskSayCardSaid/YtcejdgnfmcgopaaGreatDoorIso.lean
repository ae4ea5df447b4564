/- What is proved: impl.pairSums, impl.isolatedBy, impl.IsolatedBy and spec.l10Isolated, spec.IsolatedBy return what is said, loop by loop. Conditions: those of each contract. -/
import Derived.Test.YtcejdgnfmcgopaaGreatDoorPa
import Derived.Laws.BitsAllLaws
import Derived.StillTailTactics
namespace Go.Proofs.YtcejdgnfmcgopaaGreatDoor
open Go.RowKit

theorem Leaf.lit {w0 W : World} {cs : Array Value} {xs : List Int} {n : Nat} (hx : Ext w0 W) (hg : n = W.heap.size) (hc : ∀ j, j < xs.length → cs[j]? = some (.int .i64 (ix xs j))) (hn : xs.length ≤ 1000) : FreshI w0 xs (.returned (.slice (some ⟨n, 0, none⟩) xs.length xs.length)) (W.alloc (.cells cs 3)) := by
  subst hg
  refine ⟨_, rfl, ⟨_, _, rfl, Nat.le_refl _, by unfold maxLen; omega, fun _ => ⟨W.heap.size, cs, rfl, heap_alloc_new W _, hc⟩⟩, fun g hg => ?_, hx.alloc' _⟩
  cases e : xs.length with
  | zero => rw [e] at hg; simp [lb] at hg
  | succ m => rw [e] at hg; simp [lb] at hg; have := hx.size; omega

def psL (D : List (List Int)) (a b c e : Nat) : List Int := [at2 D a b + at2 D c e, at2 D a c + at2 D b e, at2 D a e + at2 D b c]

set_option maxRecDepth 100000 in
set_option maxHeartbeats 4000000 in
theorem pairSums_any (A : Option Addr) (cp : Nat) (D : List (List Int)) (a b c e : Nat) (w : World) (h : Mat w A cp D) (hf : farB D = true) (ha : a < D.length) (hb : b < D.length) (hc : c < D.length) (he : e < D.length) :
    Calls Tryz.prog 175 #[.slice A D.length cp, .int .i64 a, .int .i64 b, .int .i64 c, .int .i64 e] w (FreshI w (psL D a b c e)) := by
  obtain ⟨⟨hn1, hn6⟩, hsq, hcells⟩ := farB_parts hf
  clear hf
  obtain ⟨bk, o, rc, rb, ro, hA, hrow, -, hcell, -⟩ := h.square hsq
  obtain rfl := hA (by omega)
  have ha' : (a : Int) < (D.length : Nat) := by omega
  have hb' : (b : Int) < (D.length : Nat) := by omega
  have hc' : (c : Int) < (D.length : Nat) := by omega
  have he' : (e : Int) < (D.length : Nat) := by omega
  have r1 := hrow a ha
  have r2 := hrow b hb
  have r3 := hrow c hc
  have c1 := hcell a ha b hb
  have c2 := hcell c hc e he
  have c3 := hcell a ha c hc
  have c4 := hcell b hb e he
  have c5 := hcell a ha e he
  have c6 := hcell b hb c hc
  obtain ⟨p1, q1, -, -⟩ := hcells a ha b hb
  obtain ⟨p2, q2, -, -⟩ := hcells c hc e he
  obtain ⟨p3, q3, -, -⟩ := hcells a ha c hc
  obtain ⟨p4, q4, -, -⟩ := hcells b hb e he
  obtain ⟨p5, q5, -, -⟩ := hcells a ha e he
  obtain ⟨p6, q6, -, -⟩ := hcells b hb c hc
  clear hrow hcell hcells hA
  go_enter Tryz.func175, Tryz.ntmps175
  go_wp2
  go_still_tail 45, (by kernel_rfl)
  go_wp2
  go_ret
  refine Leaf.lit (xs := psL D a b c e) (Ext.drewN w 1) rfl (fun j hj => ?_) (by show 3 ≤ 1000; decide)
  match j, hj with
  | 0, _ => rfl
  | 1, _ => rfl
  | 2, _ => rfl

/-- is a point in a lot? 1 or 0 -/
def bitI (l : Int) (k : Nat) : Int := l / 2 ^ k % 2
theorem bitI_01 (l : Int) (k : Nat) : bitI l k = 0 ∨ bitI l k = 1 := by unfold bitI; omega
theorem bitI_and (l : Int) (k : Nat) (h0 : 0 ≤ l) (h1 : l ≤ 1000000) : bits .and .i64 (l / 2 ^ k) 1 = bitI l k := by
  have hp : (0 : Int) < 2 ^ k := Int.pow_pos (by decide)
  have hq : 0 ≤ l / 2 ^ k := Int.ediv_nonneg h0 (by omega)
  have hq2 : l / 2 ^ k ≤ l := Int.ediv_le_self _ h0
  obtain ⟨q, hq3⟩ : ∃ q : Nat, l / 2 ^ k = q := ⟨(l / 2 ^ k).toNat, by omega⟩
  unfold bitI
  rw [hq3]
  have hb : (BitVec.ofInt 64 ((q : Nat) : Int)).toNat = q := by
    rw [BitVec.ofInt_natCast, BitVec.toNat_ofNat]; exact Nat.mod_eq_of_lt (by omega)
  have h1' : (BitVec.ofInt 64 (1 : Int)).toNat = 1 := by decide
  show IntKind.i64.wrap ((BitVec.ofInt 64 ((q : Nat) : Int) &&& BitVec.ofInt 64 (1 : Int)).toNat : Int) = _
  rw [BitVec.toNat_and, hb, h1', Nat.and_one_is_mod, IntKind.wrap_i64]
  omega

/-- by how much the greatest of three sums is greater than the first one -/
def gap4 (D : List (List Int)) (a b c e : Nat) : Int := maxI (psL D a b c e) - ix (psL D a b c e) 0
def quadB (l : Int) (a b c e : Nat) : Bool := decide (bitI l a = 1 ∧ bitI l b = 1 ∧ bitI l c = 0 ∧ bitI l e = 0)
def isoStep (D : List (List Int)) (l : Int) (a b c e : Nat) (s : Int) : Int := if quadB l a b c e = true then min s (gap4 D a b c e) else s
def iso1 (D : List (List Int)) (l : Int) (a b c : Nat) : Nat → Nat → Int → Int := itR (fun e s => isoStep D l a b c e s)
def iso2 (D : List (List Int)) (l : Int) (a b : Nat) : Nat → Nat → Int → Int := itR (fun c s => iso1 D l a b c D.length 0 s)
def iso3 (D : List (List Int)) (l : Int) (a : Nat) : Nat → Nat → Int → Int := itR (fun b s => iso2 D l a b D.length 0 s)
def isoI (D : List (List Int)) (l : Int) : Int := itR (fun a s => iso3 D l a D.length 0 s) D.length 0 240
theorem isoStep_no {D : List (List Int)} {l : Int} {a b c e : Nat} {s : Int} (h : ¬ (bitI l a = 1 ∧ bitI l b = 1 ∧ bitI l c = 0 ∧ bitI l e = 0)) : isoStep D l a b c e s = s := by
  unfold isoStep quadB; rw [if_neg (by simpa using h)]
theorem isoStep_yes {D : List (List Int)} {l : Int} {a b c e : Nat} {s : Int} (h : bitI l a = 1 ∧ bitI l b = 1 ∧ bitI l c = 0 ∧ bitI l e = 0) : isoStep D l a b c e s = min s (gap4 D a b c e) := by
  unfold isoStep quadB; rw [if_pos (by simpa using h)]
theorem maxI3 (x y z : Int) : maxI [x, y, z] = max (max x y) z := rfl

set_option maxRecDepth 100000 in
set_option maxHeartbeats 8000000 in
theorem isolatedBy_any (A : Option Addr) (cp : Nat) (D : List (List Int)) (l : Int) (w : World) (h : Mat w A cp D) (hf : farB D = true) (hl0 : 0 ≤ l) (hl1 : l ≤ 1000000) :
    Calls Tryz.prog 150 #[.slice A D.length cp, .int .i64 l] w fun e w' => e = .returned (.int .i64 (isoI D l)) ∧ Ext w w' := by
  have HM := Lib.hid h
  obtain ⟨⟨hn1, hn6⟩, hsq, hcells⟩ := farB_parts hf
  have HC := Lib.hid (fun (a b c e : Nat) (ha : a < D.length) (hb : b < D.length) (hc : c < D.length) (he : e < D.length) W (k : Mat W A cp D) => pairSums_any A cp D a b c e W k hf ha hb hc he)
  have HB := Lib.hid (fun k => bitI_and l k hl0 hl1)
  have HCE := Lib.hid hcells
  clear hf hsq hcells h
  go_enter Tryz.func150, Tryz.ntmps150
  go_wp2
  go_loopg [13, 5] (D.length) (fun g s13 s5 wr => ∃ (a : Nat) (s1 : Int), a + g = D.length ∧ s13 = .int .i64 a ∧ s5 = .int .i64 s1 ∧ Ext w wr ∧ 0 ≤ s1 ∧ s1 ≤ 240 ∧ Hid (itR (fun a s => iso3 D l a D.length 0 s) g a s1 = isoI D l))
  case atStart => exact ⟨0, _, by omega, rfl, rfl, by repeat (first | exact Ext.refl _ | assumption | apply Ext.drewN' | apply Ext.alloc' | refine Ext.trans ?_ (by assumption)), by omega, by omega, Lib.hid (rfl)⟩
  case round =>
    obtain ⟨a, s1, ha, rfl, rfl, hxa, hs1, hs1', Ha⟩ := hrel
    by_cases hina : a < D.length
    · obtain ⟨ga, rfl⟩ : ∃ g', gk = g' + 1 := ⟨gk - 1, by omega⟩
      have hina' : (a : Int) < (D.length : Nat) := by omega
      go_wp2
      go_loopg [18, 5] (D.length) (fun g s18 s5 wr => ∃ (b : Nat) (s2 : Int), b + g = D.length ∧ s18 = .int .i64 b ∧ s5 = .int .i64 s2 ∧ Ext w wr ∧ 0 ≤ s2 ∧ s2 ≤ 240 ∧ Hid (iso3 D l a g b s2 = iso3 D l a D.length 0 s1))
      case atStart => exact ⟨0, _, by omega, rfl, rfl, by repeat (first | exact Ext.refl _ | assumption | apply Ext.drewN' | apply Ext.alloc' | refine Ext.trans ?_ (by assumption)), by omega, by omega, Lib.hid (rfl)⟩
      case round =>
        obtain ⟨b, s2, hb, rfl, rfl, hxb, hs2, hs2', Hb⟩ := hrel
        by_cases hinb : b < D.length
        · obtain ⟨gb, rfl⟩ : ∃ g', gk = g' + 1 := ⟨gk - 1, by omega⟩
          have hinb' : (b : Int) < (D.length : Nat) := by omega
          go_wp2
          go_loopg [23, 5] (D.length) (fun g s23 s5 wr => ∃ (c : Nat) (s3 : Int), c + g = D.length ∧ s23 = .int .i64 c ∧ s5 = .int .i64 s3 ∧ Ext w wr ∧ 0 ≤ s3 ∧ s3 ≤ 240 ∧ Hid (iso2 D l a b g c s3 = iso2 D l a b D.length 0 s2))
          case atStart => exact ⟨0, _, by omega, rfl, rfl, by repeat (first | exact Ext.refl _ | assumption | apply Ext.drewN' | apply Ext.alloc' | refine Ext.trans ?_ (by assumption)), by omega, by omega, Lib.hid (rfl)⟩
          case round =>
            obtain ⟨c, s3, hc, rfl, rfl, hxc, hs3, hs3', Hc⟩ := hrel
            by_cases hinc : c < D.length
            · obtain ⟨gc, rfl⟩ : ∃ g', gk = g' + 1 := ⟨gk - 1, by omega⟩
              have hinc' : (c : Int) < (D.length : Nat) := by omega
              go_wp2
              go_loopg [28, 5] (D.length) (fun g s28 s5 wr => ∃ (e : Nat) (s4 : Int), e + g = D.length ∧ s28 = .int .i64 e ∧ s5 = .int .i64 s4 ∧ Ext w wr ∧ 0 ≤ s4 ∧ s4 ≤ 240 ∧ Hid (iso1 D l a b c g e s4 = iso1 D l a b c D.length 0 s3))
              case atStart => exact ⟨0, _, by omega, rfl, rfl, by repeat (first | exact Ext.refl _ | assumption | apply Ext.drewN' | apply Ext.alloc' | refine Ext.trans ?_ (by assumption)), by omega, by omega, Lib.hid (rfl)⟩
              case round =>
                obtain ⟨e, s4, he, rfl, rfl, hxe, hs4, hs4', He⟩ := hrel
                by_cases hine : e < D.length
                · obtain ⟨ge, rfl⟩ : ∃ g', gk = g' + 1 := ⟨gk - 1, by omega⟩
                  have hine' : (e : Int) < (D.length : Nat) := by omega
                  have Hst := Lib.hid (show iso1 D l a b c (ge + 1) e s4 = iso1 D l a b c ge (e + 1) (isoStep D l a b c e s4) from rfl)
                  have B1 := HB.out a
                  have B2 := HB.out b
                  have B3 := HB.out c
                  have B4 := HB.out e
                  rcases bitI_01 l a with q1 | q1
                  · have HN := Lib.hid (isoStep_no (D := D) (a := a) (b := b) (c := c) (e := e) (s := s4) (fun k => absurd (q1.symm.trans k.1) (by decide)))
                    rw [q1] at B1
                    clear q1
                    go_wp2
                    go_roundg ge
                    case measure => omega
                    case rel => exact ⟨e + 1, s4, by omega, by go_num, by first | rfl | go_num, by repeat (first | exact Ext.refl _ | assumption | apply Ext.drewN' | apply Ext.alloc' | refine Ext.trans ?_ (by assumption)), by omega, by omega, Lib.hid (by rw [← He.out, Hst.out, HN.out])⟩
                  rcases bitI_01 l b with q2 | q2
                  · have HN := Lib.hid (isoStep_no (D := D) (a := a) (b := b) (c := c) (e := e) (s := s4) (fun k => absurd (q2.symm.trans k.2.1) (by decide)))
                    rw [q1] at B1
                    rw [q2] at B2
                    clear q1 q2
                    go_wp2
                    go_roundg ge
                    case measure => omega
                    case rel => exact ⟨e + 1, s4, by omega, by go_num, by first | rfl | go_num, by repeat (first | exact Ext.refl _ | assumption | apply Ext.drewN' | apply Ext.alloc' | refine Ext.trans ?_ (by assumption)), by omega, by omega, Lib.hid (by rw [← He.out, Hst.out, HN.out])⟩
                  rcases bitI_01 l c with q3 | q3
                  rotate_left
                  · have HN := Lib.hid (isoStep_no (D := D) (a := a) (b := b) (c := c) (e := e) (s := s4) (fun k => absurd (q3.symm.trans k.2.2.1) (by decide)))
                    rw [q1] at B1
                    rw [q2] at B2
                    rw [q3] at B3
                    clear q1 q2 q3
                    go_wp2
                    go_roundg ge
                    case measure => omega
                    case rel => exact ⟨e + 1, s4, by omega, by go_num, by first | rfl | go_num, by repeat (first | exact Ext.refl _ | assumption | apply Ext.drewN' | apply Ext.alloc' | refine Ext.trans ?_ (by assumption)), by omega, by omega, Lib.hid (by rw [← He.out, Hst.out, HN.out])⟩
                  rcases bitI_01 l e with q4 | q4
                  rotate_left
                  · have HN := Lib.hid (isoStep_no (D := D) (a := a) (b := b) (c := c) (e := e) (s := s4) (fun k => absurd (q4.symm.trans k.2.2.2) (by decide)))
                    rw [q1] at B1
                    rw [q2] at B2
                    rw [q3] at B3
                    rw [q4] at B4
                    clear q1 q2 q3 q4
                    go_wp2
                    go_roundg ge
                    case measure => omega
                    case rel => exact ⟨e + 1, s4, by omega, by go_num, by first | rfl | go_num, by repeat (first | exact Ext.refl _ | assumption | apply Ext.drewN' | apply Ext.alloc' | refine Ext.trans ?_ (by assumption)), by omega, by omega, Lib.hid (by rw [← He.out, Hst.out, HN.out])⟩
                  have HN := Lib.hid (isoStep_yes (D := D) (a := a) (b := b) (c := c) (e := e) (s := s4) ⟨q1, q2, q3, q4⟩)
                  rw [q1] at B1
                  rw [q2] at B2
                  rw [q3] at B3
                  rw [q4] at B4
                  clear q1 q2 q3 q4
                  go_wp2_with fail
                  refine (HC.out a b c e hina hinb hinc hine _ (HM.out.ext (by repeat (first | exact Ext.refl _ | assumption | apply Ext.drewN' | apply Ext.alloc' | refine Ext.trans ?_ (by assumption))))).mono ?_
                  rintro e1 w1 ⟨v1, rfl, hv, -, hx1⟩
                  obtain ⟨A1, c1, rfl, hI⟩ := hv.ints
                  obtain ⟨-, -, b1, o1, hA1, hc1⟩ := id hI
                  obtain rfl := hA1 (by show 0 < 3; decide)
                  have k0 := hc1 0 (by show 0 < 3; decide)
                  simp only [Nat.add_zero] at k0
                  have HI := Lib.hid hI
                  have hg0 : 0 ≤ gap4 D a b c e ∧ gap4 D a b c e ≤ 120 := by
                    obtain ⟨p1, p1', -, -⟩ := HCE.out a hina b hinb
                    obtain ⟨p2, p2', -, -⟩ := HCE.out c hinc e hine
                    obtain ⟨p3, p3', -, -⟩ := HCE.out a hina c hinc
                    obtain ⟨p4, p4', -, -⟩ := HCE.out b hinb e hine
                    obtain ⟨p5, p5', -, -⟩ := HCE.out a hina e hine
                    obtain ⟨p6, p6', -, -⟩ := HCE.out b hinb c hinc
                    show 0 ≤ max (max (at2 D a b + at2 D c e) (at2 D a c + at2 D b e)) (at2 D a e + at2 D b c) - (at2 D a b + at2 D c e) ∧ max (max (at2 D a b + at2 D c e) (at2 D a c + at2 D b e)) (at2 D a e + at2 D b c) - (at2 D a b + at2 D c e) ≤ 120
                    omega
                  have hps : 0 ≤ ix (psL D a b c e) 0 ∧ ix (psL D a b c e) 0 ≤ 120 := by
                    obtain ⟨p1, p1', -, -⟩ := HCE.out a hina b hinb
                    obtain ⟨p2, p2', -, -⟩ := HCE.out c hinc e hine
                    show 0 ≤ at2 D a b + at2 D c e ∧ at2 D a b + at2 D c e ≤ 120
                    omega
                  have hgd : maxI (psL D a b c e) = gap4 D a b c e + ix (psL D a b c e) 0 := by unfold gap4; omega
                  have HG := Lib.hid hgd
                  obtain ⟨hg1, hg2⟩ := hg0
                  obtain ⟨hp1, hp2⟩ := hps
                  have hm1 : 0 ≤ maxI (psL D a b c e) := by omega
                  have hm2 : maxI (psL D a b c e) ≤ 240 := by omega
                  clear hc1 hI hA1 hv hgd
                  have HSM := Lib.hid (fun W (k : Ints W (some ⟨b1, o1, none⟩) c1 (psL D a b c e)) => slicesMax_any (some ⟨b1, o1, none⟩) c1 (psL D a b c e) W k (by show 0 < 3; decide))
                  have hpl : (0 : Int) < ((psL D a b c e).length : Nat) := by show (0 : Int) < ((3 : Nat) : Int); decide
                  by_cases hle : s4 ≤ maxI (psL D a b c e) - ix (psL D a b c e) 0
                  · have HE := Lib.hid (show min s4 (gap4 D a b c e) = s4 from Int.min_eq_left (by unfold gap4; exact hle))
                    go_wp2_with fail
                    go_quiet ((go_at_call 145; (first | exact Calls.quiet_of_same (HSM.out _ (by exact HI.out)) | exact quiet_add_same (HSM.out _ (by exact HI.out)) | exact Calls.quiet_of (HSM.out _ (by exact HI.out)) | exact quiet_add (HSM.out _ (by exact HI.out)))))
                    go_wp2
                    go_roundg ge
                    case measure => omega
                    case rel => exact ⟨e + 1, s4, by omega, by go_num, by first | rfl | go_num, by repeat (first | exact Ext.refl _ | assumption | apply Ext.drewN' | apply Ext.alloc' | refine Ext.trans ?_ (by assumption)), by omega, by omega, Lib.hid (by rw [← He.out, Hst.out, HN.out, HE.out])⟩
                  · have HE := Lib.hid (show min s4 (gap4 D a b c e) = gap4 D a b c e from Int.min_eq_right (by unfold gap4; omega))
                    go_wp2_with fail
                    go_quiet ((go_at_call 145; (first | exact Calls.quiet_of_same (HSM.out _ (by exact HI.out)) | exact quiet_add_same (HSM.out _ (by exact HI.out)) | exact Calls.quiet_of (HSM.out _ (by exact HI.out)) | exact quiet_add (HSM.out _ (by exact HI.out)))))
                    go_wp2
                    go_roundg ge
                    case measure => omega
                    case rel => exact ⟨e + 1, gap4 D a b c e, by omega, by go_num, by first | rfl | go_num, by repeat (first | exact Ext.refl _ | assumption | apply Ext.drewN' | apply Ext.alloc' | refine Ext.trans ?_ (by assumption)), by omega, by omega, Lib.hid (by rw [← He.out, Hst.out, HN.out, HE.out])⟩
                · have hine' : ¬ (e : Int) < (D.length : Nat) := by omega
                  obtain rfl : gk = 0 := by omega
                  have HT := Lib.hid (show s4 = iso1 D l a b c D.length 0 s3 from He.out)
                  clear He
                  go_wp2
                  go_roundg gc
                  case measure => omega
                  case rel => exact ⟨c + 1, s4, by omega, by go_num, by first | rfl | go_num, by repeat (first | exact Ext.refl _ | assumption | apply Ext.drewN' | apply Ext.alloc' | refine Ext.trans ?_ (by assumption)), by omega, by omega, Lib.hid (by rw [← Hc.out]; show _ = iso2 D l a b gc (c + 1) (iso1 D l a b c D.length 0 s3); rw [← HT.out])⟩
            · have hinc' : ¬ (c : Int) < (D.length : Nat) := by omega
              obtain rfl : gk = 0 := by omega
              have HT := Lib.hid (show s3 = iso2 D l a b D.length 0 s2 from Hc.out)
              clear Hc
              go_wp2
              go_roundg gb
              case measure => omega
              case rel => exact ⟨b + 1, s3, by omega, by go_num, by first | rfl | go_num, by repeat (first | exact Ext.refl _ | assumption | apply Ext.drewN' | apply Ext.alloc' | refine Ext.trans ?_ (by assumption)), by omega, by omega, Lib.hid (by rw [← Hb.out]; show _ = iso3 D l a gb (b + 1) (iso2 D l a b D.length 0 s2); rw [← HT.out])⟩
        · have hinb' : ¬ (b : Int) < (D.length : Nat) := by omega
          obtain rfl : gk = 0 := by omega
          have HT := Lib.hid (show s2 = iso3 D l a D.length 0 s1 from Hb.out)
          clear Hb
          go_wp2
          go_roundg ga
          case measure => omega
          case rel => exact ⟨a + 1, s2, by omega, by go_num, by first | rfl | go_num, by repeat (first | exact Ext.refl _ | assumption | apply Ext.drewN' | apply Ext.alloc' | refine Ext.trans ?_ (by assumption)), by omega, by omega, Lib.hid (by rw [← Ha.out, itR, ← HT.out])⟩
    · have hina' : ¬ (a : Int) < (D.length : Nat) := by omega
      obtain rfl : gk = 0 := by omega
      go_wp2
      go_ret
      exact ⟨ret_int (by rw [← Ha.out]; rfl), (by repeat (first | exact Ext.refl _ | assumption | apply Ext.drewN' | apply Ext.alloc' | refine Ext.trans ?_ (by assumption)))⟩

where
  splitB_parts' {D : List (List Int)} {l : Int} (h : splitB D l = true) : spB D = true ∧ 2 ≤ D.length ∧ D.length ≤ 6 ∧ 1 ≤ l ∧ l < 2 ^ (D.length - 1) ∧ l ≤ 31 := by
    unfold splitB at h
    simp only [Bool.and_eq_true, decide_eq_true_eq] at h
    obtain ⟨hs, h2, h3, h4⟩ := h
    have h6 := (spB_len hs).2
    have hp : (2 : Int) ^ (D.length - 1) ≤ 2 ^ 5 := by exact_mod_cast Nat.pow_le_pow_right (by decide) (by omega)
    have h5 : (2 : Int) ^ 5 = 32 := by decide
    exact ⟨hs, h2, h6, h3, h4, by omega⟩
end Go.Proofs.YtcejdgnfmcgopaaGreatDoor
