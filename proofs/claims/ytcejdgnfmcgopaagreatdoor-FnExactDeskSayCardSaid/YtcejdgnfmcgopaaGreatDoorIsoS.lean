/- What is proved: spec.l10Isolated and spec.IsolatedBy return what is said, loop by loop. Conditions: those of each contract. -/
import Derived.Test.YtcejdgnfmcgopaaGreatDoorIso
import Derived.WalkLawsBesides
namespace Go.Proofs.YtcejdgnfmcgopaaGreatDoor
open Go.RowKit

def sisoStep (D : List (List Int)) (a b c e : Nat) (s : Int) : Int := if s < 0 ∨ gap4 D a b c e < s then gap4 D a b c e else s
def sis1 (D : List (List Int)) (l : Int) (a b c : Nat) : Nat → Nat → Int → Int := itR (fun e s => if bitI l c = 1 ∨ bitI l e = 1 then s else sisoStep D a b c e s)
def sis2 (D : List (List Int)) (l : Int) (a b : Nat) : Nat → Nat → Int → Int := itR (fun c s => sis1 D l a b c (c + 1) 0 s)
def sis3 (D : List (List Int)) (l : Int) (a : Nat) : Nat → Nat → Int → Int := itR (fun b s => if bitI l a = 0 ∨ bitI l b = 0 then s else sis2 D l a b D.length 0 s)
def sisoI (D : List (List Int)) (l : Int) : Int := itR (fun a s => sis3 D l a (a + 1) 0 s) D.length 0 (-1)
theorem gap4_bd {D : List (List Int)} (hf : farB D = true) {a b c e : Nat} (ha : a < D.length) (hb : b < D.length) (hc : c < D.length) (he : e < D.length) : 0 ≤ gap4 D a b c e ∧ gap4 D a b c e ≤ 120 := by
  obtain ⟨_, _, hcells⟩ := farB_parts hf
  obtain ⟨p1, p1', -, -⟩ := hcells a ha b hb
  obtain ⟨p2, p2', -, -⟩ := hcells c hc e he
  obtain ⟨p3, p3', -, -⟩ := hcells a ha c hc
  obtain ⟨p4, p4', -, -⟩ := hcells b hb e he
  obtain ⟨p5, p5', -, -⟩ := hcells a ha e he
  obtain ⟨p6, p6', -, -⟩ := hcells b hb c hc
  show 0 ≤ max (max (at2 D a b + at2 D c e) (at2 D a c + at2 D b e)) (at2 D a e + at2 D b c) - (at2 D a b + at2 D c e) ∧ max (max (at2 D a b + at2 D c e) (at2 D a c + at2 D b e)) (at2 D a e + at2 D b c) - (at2 D a b + at2 D c e) ≤ 120
  omega

theorem gap4_if (D : List (List Int)) (a b c e : Nat) : ((if (if at2 D a b + at2 D c e < at2 D a c + at2 D b e then at2 D a c + at2 D b e else at2 D a b + at2 D c e) < at2 D a e + at2 D b c then at2 D a e + at2 D b c
    else if at2 D a b + at2 D c e < at2 D a c + at2 D b e then at2 D a c + at2 D b e else at2 D a b + at2 D c e) - (at2 D a b + at2 D c e)) = gap4 D a b c e := by
  show _ = max (max (at2 D a b + at2 D c e) (at2 D a c + at2 D b e)) (at2 D a e + at2 D b c) - (at2 D a b + at2 D c e)
  omega
theorem bitI_tmod (l : Int) (k : Nat) (h0 : 0 ≤ l) : (l / 2 ^ k).tmod 2 = bitI l k := by
  have hp : (0 : Int) < 2 ^ k := Int.pow_pos (by decide)
  have hq : 0 ≤ l / 2 ^ k := Int.ediv_nonneg h0 (by omega)
  exact Int.tmod_eq_emod_of_nonneg hq

set_option maxRecDepth 100000 in
set_option maxHeartbeats 8000000 in
theorem l10Isolated_any (A : Option Addr) (cp : Nat) (D : List (List Int)) (l : Int) (w : World) (h : Mat w A cp D) (hf : farB D = true) (hl0 : 0 ≤ l) :
    Calls Tryz.prog 103 #[.slice A D.length cp, .int .i64 l] w fun e w' => e = .returned (.int .i64 (sisoI D l)) ∧ ∃ m, w' = w.drewN m := by
  obtain ⟨⟨hn1, hn6⟩, hsq, hcells⟩ := farB_parts hf
  obtain ⟨bk, o, rc, rb, ro, hA, hrow, -, hcell, -⟩ := h.square hsq
  obtain rfl := hA (by omega)
  have HTM := Lib.hid (fun k => bitI_tmod l k hl0)
  have HG := Lib.hid (fun (a b c e : Nat) (ha : a < D.length) (hb : b < D.length) (hc : c < D.length) (he : e < D.length) => gap4_bd hf ha hb hc he)
  have HR := Lib.hid hrow
  have HCE := Lib.hid hcell
  have HBD := Lib.hid hcells
  clear hf hsq hrow hcell hcells h hA
  go_enter Tryz.func103, Tryz.ntmps103
  go_wp2
  go_loopg [6, 5] (D.length) (fun g s6 s5 wr => ∃ (a m : Nat) (s1 : Int), a + g = D.length ∧ s6 = .int .i64 a ∧ s5 = .int .i64 s1 ∧ wr = w.drewN m ∧ -1 ≤ s1 ∧ s1 ≤ 240 ∧ Hid (itR (fun a s => sis3 D l a (a + 1) 0 s) g a s1 = sisoI D l))
  case atStart => exact ⟨0, _, _, by omega, rfl, rfl, by first | rfl | exact drewN_0 _ | exact drewN_add _ _ _, by omega, by omega, Lib.hid (rfl)⟩
  case round =>
    obtain ⟨a, ma, s1, ha, rfl, rfl, rfl, hs1, hs1', Ha⟩ := hrel
    by_cases hina : a < D.length
    · obtain ⟨ga, rfl⟩ : ∃ g', gk = g' + 1 := ⟨gk - 1, by omega⟩
      have hina' : (a : Int) < (D.length : Nat) := by omega
      go_wp2
      go_loopg [7, 5] (a+1) (fun g s7 s5 wr => ∃ (b m : Nat) (s2 : Int), b + g = a+1 ∧ s7 = .int .i64 b ∧ s5 = .int .i64 s2 ∧ wr = w.drewN m ∧ -1 ≤ s2 ∧ s2 ≤ 240 ∧ Hid (sis3 D l a g b s2 = sis3 D l a (a + 1) 0 s1))
      case atStart => exact ⟨0, _, _, by omega, rfl, rfl, by first | rfl | exact drewN_0 _ | exact drewN_add _ _ _, by omega, by omega, Lib.hid (rfl)⟩
      case round =>
        obtain ⟨b, mb, s2, hb, rfl, rfl, rfl, hs2, hs2', Hb⟩ := hrel
        by_cases hinb : b < a+1
        · obtain ⟨gb, rfl⟩ : ∃ g', gk = g' + 1 := ⟨gk - 1, by omega⟩
          have hinb' : (b : Int) < (a+1 : Nat) := by omega
          have hdb : decide (b ≤ a) = true := decide_eq_true (by omega)
          have Hst := Lib.hid (show sis3 D l a (gb + 1) b s2 = sis3 D l a gb (b + 1) (if bitI l a = 0 ∨ bitI l b = 0 then s2 else sis2 D l a b D.length 0 s2) from rfl)
          rcases bitI_01 l a with q1 | q1
          · have B1 : (l / 2 ^ a).tmod 2 = 0 := (HTM.out a).trans q1
            have HQ := Lib.hid q1
            clear q1
            go_wp2
            go_roundg gb
            case measure => omega
            case rel => exact ⟨b + 1, _, s2, by omega, by go_num, by first | rfl | go_num, by first | rfl | exact drewN_0 _ | exact drewN_add _ _ _, by omega, by omega, Lib.hid (by rw [← Hb.out, Hst.out, if_pos (.inl HQ.out)])⟩
          rcases bitI_01 l b with q2 | q2
          · have B1 : (l / 2 ^ a).tmod 2 = 1 := (HTM.out a).trans q1
            have B2 : (l / 2 ^ b).tmod 2 = 0 := (HTM.out b).trans q2
            have HQ := Lib.hid q2
            clear q1 q2
            go_wp2
            go_roundg gb
            case measure => omega
            case rel => exact ⟨b + 1, _, s2, by omega, by go_num, by first | rfl | go_num, by first | rfl | exact drewN_0 _ | exact drewN_add _ _ _, by omega, by omega, Lib.hid (by rw [← Hb.out, Hst.out, if_pos (.inr HQ.out)])⟩
          have B1 : (l / 2 ^ a).tmod 2 = 1 := (HTM.out a).trans q1
          have B2 : (l / 2 ^ b).tmod 2 = 1 := (HTM.out b).trans q2
          have Hst2 := Lib.hid (show sis3 D l a (gb + 1) b s2 = sis3 D l a gb (b + 1) (sis2 D l a b D.length 0 s2) by rw [Hst.out, if_neg (fun k => by rcases k with k | k; exact absurd (q1.symm.trans k) (by decide); exact absurd (q2.symm.trans k) (by decide))])
          clear q1 q2 Hst
          go_wp2
          clear B1 B2
          go_loopg [8, 5] (D.length) (fun g s8 s5 wr => ∃ (c m : Nat) (s3 : Int), c + g = D.length ∧ s8 = .int .i64 c ∧ s5 = .int .i64 s3 ∧ wr = w.drewN m ∧ -1 ≤ s3 ∧ s3 ≤ 240 ∧ Hid (sis2 D l a b g c s3 = sis2 D l a b D.length 0 s2))
          case atStart => exact ⟨0, _, _, by omega, rfl, rfl, by first | rfl | exact drewN_0 _ | exact drewN_add _ _ _, by omega, by omega, Lib.hid (rfl)⟩
          case round =>
            obtain ⟨c, mc, s3, hc, rfl, rfl, rfl, hs3, hs3', Hc⟩ := hrel
            by_cases hinc : c < D.length
            · obtain ⟨gc, rfl⟩ : ∃ g', gk = g' + 1 := ⟨gk - 1, by omega⟩
              have hinc' : (c : Int) < (D.length : Nat) := by omega
              go_wp2
              go_loopg [9, 5] (c+1) (fun g s9 s5 wr => ∃ (e m : Nat) (s4 : Int), e + g = c+1 ∧ s9 = .int .i64 e ∧ s5 = .int .i64 s4 ∧ wr = w.drewN m ∧ -1 ≤ s4 ∧ s4 ≤ 240 ∧ Hid (sis1 D l a b c g e s4 = sis1 D l a b c (c + 1) 0 s3))
              case atStart => exact ⟨0, _, _, by omega, rfl, rfl, by first | rfl | exact drewN_0 _ | exact drewN_add _ _ _, by omega, by omega, Lib.hid (rfl)⟩
              case round =>
                obtain ⟨e, me, s4, he, rfl, rfl, rfl, hs4, hs4', He⟩ := hrel
                by_cases hine : e < c+1
                · obtain ⟨ge, rfl⟩ : ∃ g', gk = g' + 1 := ⟨gk - 1, by omega⟩
                  have hine' : (e : Int) < (c+1 : Nat) := by omega
                  have hde : decide (e ≤ c) = true := decide_eq_true (by omega)
                  have Hst := Lib.hid (show sis1 D l a b c (ge + 1) e s4 = sis1 D l a b c ge (e + 1) (if bitI l c = 1 ∨ bitI l e = 1 then s4 else sisoStep D a b c e s4) from rfl)
                  rcases bitI_01 l c with q3 | q3
                  rotate_left
                  · have B3 : (l / 2 ^ c).tmod 2 = 1 := (HTM.out c).trans q3
                    have HQ := Lib.hid q3
                    clear q3
                    go_wp2
                    go_roundg ge
                    case measure => omega
                    case rel => exact ⟨e + 1, _, s4, by omega, by go_num, by first | rfl | go_num, by first | rfl | exact drewN_0 _ | exact drewN_add _ _ _, by omega, by omega, Lib.hid (by rw [← He.out, Hst.out, if_pos (.inl HQ.out)])⟩
                  rcases bitI_01 l e with q4 | q4
                  rotate_left
                  · have B3 : (l / 2 ^ c).tmod 2 = 0 := (HTM.out c).trans q3
                    have B4 : (l / 2 ^ e).tmod 2 = 1 := (HTM.out e).trans q4
                    have HQ := Lib.hid q4
                    clear q3 q4
                    go_wp2
                    go_roundg ge
                    case measure => omega
                    case rel => exact ⟨e + 1, _, s4, by omega, by go_num, by first | rfl | go_num, by first | rfl | exact drewN_0 _ | exact drewN_add _ _ _, by omega, by omega, Lib.hid (by rw [← He.out, Hst.out, if_pos (.inr HQ.out)])⟩
                  have B3 : (l / 2 ^ c).tmod 2 = 0 := (HTM.out c).trans q3
                  have B4 : (l / 2 ^ e).tmod 2 = 0 := (HTM.out e).trans q4
                  have Hst2 := Lib.hid (show sis1 D l a b c (ge + 1) e s4 = sis1 D l a b c ge (e + 1) (sisoStep D a b c e s4) by rw [Hst.out, if_neg (fun k => by rcases k with k | k; exact absurd (q3.symm.trans k) (by decide); exact absurd (q4.symm.trans k) (by decide))])
                  clear q3 q4 Hst
                  have hbn : b < D.length := by omega
                  have hen : e < D.length := by omega
                  have r1 := HR.out a hina
                  have r2 := HR.out b hbn
                  have r3 := HR.out c hinc
                  have c1 := HCE.out a hina b hbn
                  have c2 := HCE.out c hinc e hen
                  have c3 := HCE.out a hina c hinc
                  have c4 := HCE.out b hbn e hen
                  have c5 := HCE.out a hina e hen
                  have c6 := HCE.out b hbn c hinc
                  obtain ⟨p1, p1', -, -⟩ := HBD.out a hina b hbn
                  obtain ⟨p2, p2', -, -⟩ := HBD.out c hinc e hen
                  obtain ⟨p3, p3', -, -⟩ := HBD.out a hina c hinc
                  obtain ⟨p4, p4', -, -⟩ := HBD.out b hbn e hen
                  obtain ⟨p5, p5', -, -⟩ := HBD.out a hina e hen
                  obtain ⟨p6, p6', -, -⟩ := HBD.out b hbn c hinc
                  have hbn' : (b : Int) < (D.length : Nat) := by omega
                  have hen' : (e : Int) < (D.length : Nat) := by omega
                  go_wp2
                  go_quiet (fail)
                  go_wp2
                  clear B3 B4
                  go_quiet (fail)
                  have HM3 := gap4_if D a b c e
                  rw [HM3]
                  clear HM3 c1 c2 c3 c4 c5 c6 r1 r2 r3 p1 p1' p2 p2' p3 p3' p4 p4' p5 p5' p6 p6'
                  obtain ⟨g1, g2⟩ := HG.out a b c e hina hbn hinc hen
                  by_cases hs : s4 < 0
                  · have HE := Lib.hid (show sisoStep D a b c e s4 = gap4 D a b c e from if_pos (.inl hs))
                    go_wp2
                    all_goals
                      go_roundg ge
                      case measure => omega
                      case rel => exact ⟨e + 1, _, gap4 D a b c e, by omega, by go_num, by first | rfl | go_num, by first | rfl | exact drewN_0 _ | exact drewN_add _ _ _, by omega, by omega, Lib.hid (by rw [← He.out, Hst2.out, HE.out])⟩
                  by_cases hlt : gap4 D a b c e < s4
                  · have HE := Lib.hid (show sisoStep D a b c e s4 = gap4 D a b c e from if_pos (.inr hlt))
                    go_wp2
                    all_goals
                      go_roundg ge
                      case measure => omega
                      case rel => exact ⟨e + 1, _, gap4 D a b c e, by omega, by go_num, by first | rfl | go_num, by first | rfl | exact drewN_0 _ | exact drewN_add _ _ _, by omega, by omega, Lib.hid (by rw [← He.out, Hst2.out, HE.out])⟩
                  have HE := Lib.hid (show sisoStep D a b c e s4 = s4 from if_neg (by omega))
                  go_wp2
                  all_goals
                    go_roundg ge
                    case measure => omega
                    case rel => exact ⟨e + 1, _, s4, by omega, by go_num, by first | rfl | go_num, by first | rfl | exact drewN_0 _ | exact drewN_add _ _ _, by omega, by omega, Lib.hid (by rw [← He.out, Hst2.out, HE.out])⟩
                · have hine' : ¬ (e : Int) < (c+1 : Nat) := by omega
                  obtain rfl : gk = 0 := by omega
                  have HT := Lib.hid (show s4 = sis1 D l a b c (c + 1) 0 s3 from He.out)
                  clear He
                  go_wp2
                  go_roundg gc
                  case measure => omega
                  case rel => exact ⟨c + 1, _, s4, by omega, by go_num, by first | rfl | go_num, by first | rfl | exact drewN_0 _ | exact drewN_add _ _ _, by omega, by omega, Lib.hid (by rw [← Hc.out]; show _ = sis2 D l a b gc (c + 1) (sis1 D l a b c (c + 1) 0 s3); rw [← HT.out])⟩
            · have hinc' : ¬ (c : Int) < (D.length : Nat) := by omega
              obtain rfl : gk = 0 := by omega
              have HT := Lib.hid (show s3 = sis2 D l a b D.length 0 s2 from Hc.out)
              clear Hc
              go_wp2
              go_roundg gb
              case measure => omega
              case rel => exact ⟨b + 1, _, s3, by omega, by go_num, by first | rfl | go_num, by first | rfl | exact drewN_0 _ | exact drewN_add _ _ _, by omega, by omega, Lib.hid (by rw [← Hb.out, Hst2.out, ← HT.out])⟩
        · have hinb' : ¬ (b : Int) < (a+1 : Nat) := by omega
          obtain rfl : gk = 0 := by omega
          have HT := Lib.hid (show s2 = sis3 D l a (a + 1) 0 s1 from Hb.out)
          clear Hb
          go_wp2
          go_roundg ga
          case measure => omega
          case rel => exact ⟨a + 1, _, s2, by omega, by go_num, by first | rfl | go_num, by first | rfl | exact drewN_0 _ | exact drewN_add _ _ _, by omega, by omega, Lib.hid (by rw [← Ha.out, itR, ← HT.out])⟩
    · have hina' : ¬ (a : Int) < (D.length : Nat) := by omega
      obtain rfl : gk = 0 := by omega
      go_wp2
      go_ret
      exact ⟨ret_int (by rw [← Ha.out]; rfl), _, by first | rfl | exact drewN_add _ _ _⟩

end Go.Proofs.YtcejdgnfmcgopaaGreatDoor
