/- What is proved: impl.UnlikeSpaces returns the least difference over all choices of pairs. No condition. -/
import Derived.Test.YtpkiodpocggfbaaUns
import Derived.Test.YtpkiodpocggfbaaUnlI
namespace Go.Proofs.Ytpkiodpocggfbaa
open Go.RowKit
noncomputable def unsV (D E : List (List Int)) : Int := if spB D = true ∧ spB E = true ∧ D.length ≤ 3 ∧ E.length ≤ 3 then unsI D E else -1
/-- the pairs of a choice, under way -/
def PrC (m : Nat) (ch : Int) (w0 W : World) (v : Value) (g i : Nat) (T : List (List Int)) : Prop := ∃ R V, AccM w0 W v R V ∧ R.length ≤ i ∧ prsG m ch g i R = T
theorem PrC.x {m : Nat} {ch : Int} {w0 W : World} {v : Value} {g i : Nat} {T : List (List Int)} (h : PrC m ch w0 W v g i T) : Ext w0 W := by
  obtain ⟨R, V, h1, _⟩ := h
  exact h1.x
theorem PrC.on {m : Nat} {ch : Int} {w0 W W' : World} {v : Value} {g i : Nat} {T : List (List Int)} (h : PrC m ch w0 W v g i T) (x : Ext W W') : PrC m ch w0 W' v g i T := by
  obtain ⟨R, V, h1, h2, h3⟩ := h
  exact ⟨R, V, h1.on x, h2, h3⟩
theorem PrC.skip {m : Nat} {ch : Int} {w0 W : World} {v : Value} {g i : Nat} {T : List (List Int)} (h : PrC m ch w0 W v (g + 1) i T) (hb : ¬ bitI ch i = 1) : PrC m ch w0 W v g (i + 1) T := by
  obtain ⟨R, V, h1, h2, h3⟩ := h
  exact ⟨R, V, h1, by omega, by rw [← prsG_no hb]; exact h3⟩
theorem PrC.done {m : Nat} {ch : Int} {w0 W : World} {v : Value} {i : Nat} {T : List (List Int)} (h : PrC m ch w0 W v 0 i T) : ∃ A c, v = .slice A (List.length T) c ∧ Mat W A c T := by
  obtain ⟨R, V, h1, h2, h3⟩ := h
  obtain rfl : R = T := h3
  obtain ⟨A, c, V', e, hL, -, -, -⟩ := h1.done
  exact ⟨A, c, by injection e, hL.mat⟩
theorem prc_run {Q : Program} {w0 wr : World} {T E ty : TypeId} (hE : E = 28)
    (ht : Q.underlying T = some (.slice E)) (hinfo : (Q.info? E).map (fun i => (i.zero, i.size, i.bytes)) = some (some (.slice none 0 0), 1, 24)) {v : Value} {m g i : Nat} {ch : Int} {L : List (List Int)} {x y : Int}
    (h : PrC m ch w0 wr v (g + 1) i L) (hb : bitI ch i = 1) (hi : i ≤ 100) (hx : ((i / m : Nat) : Int) = x) (hy : ((i % m : Nat) : Int) = y) :
    ∃ v' w', (Builtin.append_ #[T, T] ty #[v, .slice (some ⟨wr.heap.size + 1, 0, none⟩) 1 1]).run Q ((wr.alloc (.cells #[.int .i64 x, .int .i64 y] 3)).alloc (.cells #[.slice (some ⟨wr.heap.size, 0, none⟩) 2 2] E)).drew = .ok v' w' ∧ PrC m ch w0 w' v' g (i + 1) L := by
  obtain ⟨R, V, h1, h2, h3⟩ := h
  have hsz : (wr.alloc (.cells #[.int .i64 x, .int .i64 y] 3)).heap.size = wr.heap.size + 1 := by simp
  have hc := cell_new0 (wr.alloc (.cells #[.int .i64 x, .int .i64 y] 3)) (.slice (some ⟨wr.heap.size, 0, none⟩) 2 2) E
  rw [hsz] at hc
  have hxx : Ext wr ((wr.alloc (.cells #[.int .i64 x, .int .i64 y] 3)).alloc (.cells #[.slice (some ⟨wr.heap.size, 0, none⟩) 2 2] E)).drew := ((Ext.alloc _ _).alloc' _).drewN' 1
  have hleaf := (leaf_two wr x y).ext ((Ext.alloc (wr.alloc (.cells #[.int .i64 x, .int .i64 y] 3)) (.cells #[.slice (some ⟨wr.heap.size, 0, none⟩) 2 2] E)).drewN' 1)
  have hs := h1.x.size
  obtain ⟨v', w', hr, hA⟩ := appM_run (P := Q) (w0 := w0) (W := ((wr.alloc (.cells #[.int .i64 x, .int .i64 y] 3)).alloc (.cells #[.slice (some ⟨wr.heap.size, 0, none⟩) 2 2] E)).drew) (ty := ty) hE ht hinfo v (.slice (some ⟨wr.heap.size, 0, none⟩) 2 2) R [x, y] V ⟨wr.heap.size + 1, 0, none⟩ 1 rfl hc (h1.on hxx) hleaf
    (fun q hq => by
      have : q = wr.heap.size := by simp [lb] at hq; exact hq
      subst this
      refine ⟨hs, fun i hi hq' => ?_⟩
      have := (h1.2.1 i hi).lt hq'
      omega) (by omega)
  exact ⟨v', w', hr, R ++ [[x, y]], _, hA, by simp; omega, by rw [← hx, ← hy, ← prsG_yes hb]; exact h3⟩
theorem chV_of {D E : List (List Int)} {ch : Nat} : chV D E ch = unlV D E (prs D.length E.length ch) := rfl
set_option maxRecDepth 100000 in
set_option maxHeartbeats 8000000 in
theorem iUnlikeSpaces_any (A : Option Addr) (ca : Nat) (D : List (List Int)) (B : Option Addr) (cb : Nat) (E : List (List Int)) (w : World) (hD : Mat w A ca D) (hE : Mat w B cb E) :
    Calls Try.prog 5 #[.slice A D.length ca, .slice B E.length cb] w fun e w' => e = .returned (.int .i64 (unsV D E)) ∧ Ext w w' := by
  have HMD := Lib.hid hD
  have HME := Lib.hid hE
  have HCD := Lib.hid (fun W (q : Mat W A ca D) => isSpace_any A ca D W q)
  have HCE := Lib.hid (fun W (q : Mat W B cb E) => isSpace_any B cb E W q)
  have hlD := hD.1
  have hmD := hD.2.1
  have hlE := hE.1
  have hmE := hE.2.1
  unfold maxLen at hmD hmE
  cases hs : spB D with
  | false =>
    have HF := Lib.hid (show unsV D E = -1 from if_neg fun q => absurd (hs.symm.trans q.1) (by decide))
    rw [hs] at HCD
    clear hs hD hE
    go_enter Try.func5, Try.ntmps5
    go_wp2_with fail
    refine (HCD.out _ (HMD.out.ext (by repeat (first | exact Ext.refl _ | assumption | apply Ext.drewN' | apply Ext.alloc' | refine Ext.trans ?_ (by assumption))))).mono ?_
    rintro e w1 ⟨rfl, m1, rfl⟩
    go_wp2
    go_ret
    exact ⟨ret_int HF.out.symm, (by repeat (first | exact Ext.refl _ | assumption | apply Ext.drewN' | apply Ext.alloc' | refine Ext.trans ?_ (by assumption)))⟩
  | true =>
  cases ht : spB E with
  | false =>
    have HF := Lib.hid (show unsV D E = -1 from if_neg fun q => absurd (ht.symm.trans q.2.1) (by decide))
    rw [hs] at HCD
    rw [ht] at HCE
    clear hs ht hD hE
    go_enter Try.func5, Try.ntmps5
    go_wp2_with fail
    refine (HCD.out _ (HMD.out.ext (by repeat (first | exact Ext.refl _ | assumption | apply Ext.drewN' | apply Ext.alloc' | refine Ext.trans ?_ (by assumption))))).mono ?_
    rintro e w1 ⟨rfl, m1, rfl⟩
    go_wp2_with fail
    refine (HCE.out _ (HME.out.ext (by repeat (first | exact Ext.refl _ | assumption | apply Ext.drewN' | apply Ext.alloc' | refine Ext.trans ?_ (by assumption))))).mono ?_
    rintro e w2 ⟨rfl, m2, rfl⟩
    go_wp2
    go_ret
    exact ⟨ret_int HF.out.symm, (by repeat (first | exact Ext.refl _ | assumption | apply Ext.drewN' | apply Ext.alloc' | refine Ext.trans ?_ (by assumption)))⟩
  | true =>
  rw [hs] at HCD
  rw [ht] at HCE
  by_cases h3 : D.length ≤ 3
  rotate_left
  · have h3' : (3 : Int) < (D.length : Nat) := by omega
    have HF := Lib.hid (show unsV D E = -1 from if_neg fun q => h3 q.2.2.1)
    clear hs ht hD hE h3
    go_enter Try.func5, Try.ntmps5
    go_wp2_with fail
    refine (HCD.out _ (HMD.out.ext (by repeat (first | exact Ext.refl _ | assumption | apply Ext.drewN' | apply Ext.alloc' | refine Ext.trans ?_ (by assumption))))).mono ?_
    rintro e w1 ⟨rfl, m1, rfl⟩
    go_wp2_with fail
    refine (HCE.out _ (HME.out.ext (by repeat (first | exact Ext.refl _ | assumption | apply Ext.drewN' | apply Ext.alloc' | refine Ext.trans ?_ (by assumption))))).mono ?_
    rintro e w2 ⟨rfl, m2, rfl⟩
    go_wp2
    go_ret
    exact ⟨ret_int HF.out.symm, (by repeat (first | exact Ext.refl _ | assumption | apply Ext.drewN' | apply Ext.alloc' | refine Ext.trans ?_ (by assumption)))⟩
  have h3' : ¬ (3 : Int) < (D.length : Nat) := by omega
  by_cases k3 : E.length ≤ 3
  rotate_left
  · have k3' : (3 : Int) < (E.length : Nat) := by omega
    have HF := Lib.hid (show unsV D E = -1 from if_neg fun q => k3 q.2.2.2)
    clear hs ht hD hE k3
    go_enter Try.func5, Try.ntmps5
    go_wp2_with fail
    refine (HCD.out _ (HMD.out.ext (by repeat (first | exact Ext.refl _ | assumption | apply Ext.drewN' | apply Ext.alloc' | refine Ext.trans ?_ (by assumption))))).mono ?_
    rintro e w1 ⟨rfl, m1, rfl⟩
    go_wp2_with fail
    refine (HCE.out _ (HME.out.ext (by repeat (first | exact Ext.refl _ | assumption | apply Ext.drewN' | apply Ext.alloc' | refine Ext.trans ?_ (by assumption))))).mono ?_
    rintro e w2 ⟨rfl, m2, rfl⟩
    go_wp2
    go_ret
    exact ⟨ret_int HF.out.symm, (by repeat (first | exact Ext.refl _ | assumption | apply Ext.drewN' | apply Ext.alloc' | refine Ext.trans ?_ (by assumption)))⟩
  · have k3' : ¬ (3 : Int) < (E.length : Nat) := by omega
    have HF := Lib.hid (show unsV D E = unsI D E from if_pos ⟨hs, ht, h3, k3⟩)
    have n1 := (spB_len hs).1
    have m1 := (spB_len ht).1
    have HU := Lib.hid (fun (ch : Nat) C cc W (q1 : Mat W A ca D) (q2 : Mat W B cb E) (q3 : Mat W C cc (prs D.length E.length (ch : Int))) => iUnlikeBy_any A ca D B cb E C cc (prs D.length E.length (ch : Int)) W q1 q2 q3 (prs_pair h3 k3))
    have HV := Lib.hid (fun ch => chV_bd D E ch)
    have HC := Lib.hid (fun ch => chV_of (D := D) (E := E) (ch := ch))
    have HI := Lib.hid (show unsI D E = itR (fun ch s => if 0 ≤ chV D E ch then min s (chV D E ch) else s) (2 ^ (D.length * E.length)) 0 60 from rfl)
    obtain ⟨NM, hNM⟩ : ∃ NM, D.length * E.length = NM := ⟨_, rfl⟩
    have hNM9 : NM ≤ 9 := by rw [← hNM]; exact Nat.mul_le_mul h3 k3
    have HPR := Lib.hid (show ∀ ch, prs D.length E.length ch = prsG E.length ch NM 0 [] from fun ch => by unfold prs; rw [hNM])
    obtain ⟨PW, hPW⟩ : ∃ PW, 2 ^ NM = PW := ⟨_, rfl⟩
    have hPW2 : 1 ≤ PW ∧ PW ≤ 512 := by
      rw [← hPW]
      exact ⟨Nat.one_le_two_pow, by have := Nat.pow_le_pow_right (show 0 < 2 by decide) hNM9; simpa using this⟩
    have hpwi : (2 : Int) ^ NM = (PW : Int) := by rw [← hPW]; simp
    have hmul : (D.length : Int) * (E.length : Nat) = (NM : Int) := by rw [← hNM]; simp
    rw [hNM, hPW] at HI
    clear hs ht hD hE hNM hPW
    have hNM9' : (NM : Int) ≤ 9 := by omega
    have wq1 : wrap64 (NM : Int) = NM := IntWalk.wrap64_in _ ⟨by omega, by omega⟩
    have wq2 : wrap64 (PW : Int) = PW := IntWalk.wrap64_in _ ⟨by omega, by omega⟩
    obtain ⟨m, hm⟩ : ∃ m, E.length = m := ⟨_, rfl⟩
    rw [hm] at HU HCE HPR HC hmul hlE k3 k3' m1
    rw [hm]
    have z1 : ¬ ((m : Int) = 0) := by omega
    have z2 : ((m : Int) == 0) = false := beq_eq_false_iff_ne.2 z1
    have m0 : 0 < m := m1
    have z3 : ¬ m = 0 := by omega
    clear hm m1
    go_enter Try.func5, Try.ntmps5
    go_wp2_with fail
    refine (HCD.out _ (HMD.out.ext (by repeat (first | exact Ext.refl _ | assumption | apply Ext.drewN' | apply Ext.alloc' | refine Ext.trans ?_ (by assumption))))).mono ?_
    rintro e w1 ⟨rfl, mm1, rfl⟩
    go_wp2_with fail
    refine (HCE.out _ (HME.out.ext (by repeat (first | exact Ext.refl _ | assumption | apply Ext.drewN' | apply Ext.alloc' | refine Ext.trans ?_ (by assumption))))).mono ?_
    rintro e w2 ⟨rfl, mm2, rfl⟩
    clear HCD HCE
    go_wp2
    go_loopg [34, 5] (PW) (fun g s34 s5 wr => ∃ (ch : Nat) (t : Int), ch + g = PW ∧ s34 = .int .i64 ch ∧ s5 = .int .i64 t ∧ Ext w wr ∧ 0 ≤ t ∧ t ≤ 60 ∧ Hid (itR (fun ch s => if 0 ≤ chV D E ch then min s (chV D E ch) else s) g ch t = unsI D E))
    case atStart => exact ⟨0, _, by omega, rfl, rfl, by repeat (first | exact Ext.refl _ | assumption | apply Ext.drewN' | apply Ext.alloc' | refine Ext.trans ?_ (by assumption)), by omega, by omega, Lib.hid (HI.out.symm)⟩
    case round =>
      obtain ⟨ch, t, hch, rfl, rfl, hxch, ht0, ht1, Hch⟩ := hrel
      by_cases hinch : ch < PW
      · obtain ⟨gch, rfl⟩ : ∃ g', gk = g' + 1 := ⟨gk - 1, by omega⟩
        have hinch' : (ch : Int) < (PW : Nat) := by omega
        have HB := Lib.hid (fun k => bitI_and (ch : Int) k (by omega) (by omega))
        obtain ⟨wq, hwq⟩ : ∃ wq : World, wq = wr := ⟨_, rfl⟩
        subst hwq
        have Hxq := Lib.hid hxch
        go_wp2
        go_loopg [43, 7] NM (fun g s43 s7 wi => ∃ (i : Nat), i + g = NM ∧ s43 = .int .i64 i ∧ Hid (PrC m (ch : Int) wq wi s7 g i (prs D.length m (ch : Int))))
        case atStart => exact ⟨0, by omega, rfl, Lib.hid ⟨[], fun _ => .slice none 0 0, AccM.empty (Ext.refl _) _, by simp, (HPR.out _).symm⟩⟩
        case round =>
          obtain ⟨i, hi, rfl, HP⟩ := hrel
          have hxi := HP.out.x
          by_cases hini : i < NM
          · obtain ⟨gi, rfl⟩ : ∃ g', gk = g' + 1 := ⟨gk - 1, by omega⟩
            have hini' : (i : Int) < (NM : Nat) := by omega
            have B1 := HB.out i
            rcases bitI_01 (ch : Int) i with q | q
            · have HN := Lib.hid (HP.out.skip (by rw [q]; decide))
              rw [q] at B1
              clear q HP
              go_wp2
              go_roundg gi
              case measure => omega
              case rel => exact ⟨i + 1, by omega, by go_num, Lib.hid (HN.out.on (by first | exact Ext.refl _ | exact Ext.drewN _ _))⟩
            · obtain ⟨x, hx⟩ : ∃ x : Int, ((i / m : Nat) : Int) = x := ⟨_, rfl⟩
              obtain ⟨y, hy⟩ : ∃ x : Int, ((i % m : Nat) : Int) = x := ⟨_, rfl⟩
              have HRUN := Lib.hid (fun ty (Q : Program) (q1 : Q.underlying 23 = _) q2 => prc_run (Q := Q) (ty := ty) (E := 28) rfl q1 q2 HP.out q (by omega) hx hy)
              have x1 : ((i : Int)).tdiv (m : Nat) = x := by rw [Int.tdiv_eq_ediv_of_nonneg (by omega), ← hx]; simp
              have x2 : ((i : Int)) / (m : Nat) = x := by rw [← hx]; simp
              have y1 : ((i : Int)).tmod (m : Nat) = y := by rw [Int.tmod_eq_emod_of_nonneg (by omega), ← hy]; simp
              have y2 : ((i : Int)) % (m : Nat) = y := by rw [← hy]; simp
              have xb : 0 ≤ x ∧ x ≤ 9 := by
                have := Nat.div_le_self i m
                rw [← hx]
                exact ⟨Int.natCast_nonneg _, by exact_mod_cast (show i / m ≤ 9 by omega)⟩
              have wx : wrap64 x = x := IntWalk.wrap64_in _ ⟨by omega, by omega⟩
              have wx' : IntKind.i64.wrap x = x := IntWalk.i64_in _ ⟨by omega, by omega⟩
              rw [q] at B1
              clear q HP hx hy xb
              go_wp2_with fail
              go_region_held3 (fun _ => True) (trivial)
                ((refine step_ex rfl _ _ rfl _ (.slice (some ⟨_, 0, none⟩) 1 1) rfl rfl (HRUN.out _ _ Try.underlying23 infoR) ?_; rintro v6 w6 hP6))
              all_goals
                go_wp2
                go_roundg gi
                case measure => omega
                case rel => exact ⟨i + 1, by omega, by go_num, Lib.hid hP6⟩
          · have hini' : ¬ (i : Int) < (NM : Nat) := by omega
            obtain rfl : gk = 0 := by omega
            obtain ⟨A9, c9, e9, hM9⟩ := PrC.done HP.out
            subst e9
            have HM9 := Lib.hid hM9
            have HUK := Lib.hid (HU.out ch A9 c9)
            obtain ⟨v0, v1⟩ := HV.out ch
            rw [← HC.out ch] at HUK
            have Hst := Lib.hid (show itR (fun ch s => if 0 ≤ chV D E ch then min s (chV D E ch) else s) (gch + 1) ch t = itR (fun ch s => if 0 ≤ chV D E ch then min s (chV D E ch) else s) gch (ch + 1) (if 0 ≤ chV D E ch then min t (chV D E ch) else t) from rfl)
            obtain ⟨V, hV⟩ : ∃ V, chV D E ch = V := ⟨_, rfl⟩
            rw [hV] at v0 v1 Hst HUK
            clear hM9 HP HB hV
            go_wp2_with fail
            refine (HUK.out _ (HMD.out.ext (Hxq.out.trans hxi)) (HME.out.ext (Hxq.out.trans hxi)) HM9.out).mono ?_
            rintro e w7 ⟨rfl, hx7⟩
            have hxw : Ext w w7 := (Hxq.out.trans hxi).trans hx7
            by_cases g1 : 0 ≤ V
            · by_cases g2 : V < t
              · have HN := Lib.hid (show (if 0 ≤ V then min t V else t) = V by rw [if_pos g1]; omega)
                have g3 : (if V < t then V else t) = V := if_pos g2
                go_wp2
                go_roundg gch
                case measure => omega
                case rel => exact ⟨ch + 1, V, by omega, by go_num, by first | rfl | go_num, by repeat (first | exact Ext.refl _ | assumption | apply Ext.drewN' | apply Ext.alloc' | refine Ext.trans ?_ (by assumption)), by omega, by omega, Lib.hid (by rw [← Hch.out, Hst.out, HN.out])⟩
              · have HN := Lib.hid (show (if 0 ≤ V then min t V else t) = t by rw [if_pos g1]; omega)
                have g2' : t ≤ V := by omega
                go_wp2
                go_roundg gch
                case measure => omega
                case rel => exact ⟨ch + 1, t, by omega, by go_num, by first | rfl | go_num, by repeat (first | exact Ext.refl _ | assumption | apply Ext.drewN' | apply Ext.alloc' | refine Ext.trans ?_ (by assumption)), by omega, by omega, Lib.hid (by rw [← Hch.out, Hst.out, HN.out])⟩
            · have HN := Lib.hid (show (if 0 ≤ V then min t V else t) = t from if_neg g1)
              go_wp2
              go_roundg gch
              case measure => omega
              case rel => exact ⟨ch + 1, t, by omega, by go_num, by first | rfl | go_num, by repeat (first | exact Ext.refl _ | assumption | apply Ext.drewN' | apply Ext.alloc' | refine Ext.trans ?_ (by assumption)), by omega, by omega, Lib.hid (by rw [← Hch.out, Hst.out, HN.out])⟩
      · have hinch' : ¬ (ch : Int) < (PW : Nat) := by omega
        obtain rfl : gk = 0 := by omega
        go_wp2
        go_ret
        exact ⟨ret_int (by rw [HF.out, ← Hch.out]; rfl), (by repeat (first | exact Ext.refl _ | assumption | apply Ext.drewN' | apply Ext.alloc' | refine Ext.trans ?_ (by assumption)))⟩
end Go.Proofs.Ytpkiodpocggfbaa
