/- What is proved: spec.UnlikeSpaces returns the least difference over all choices of pairs. No condition. -/
import Derived.Test.YtpkiodpocggfbaaUnsI
namespace Go.Proofs.Ytpkiodpocggfbaa
open Go.RowKit
theorem prs_zero (n m : Nat) : prs n m 0 = [] := by
  have h := (prs_rows n m 0).2
  cases e : prs n m 0 with
  | nil => rfl
  | cons r R =>
    obtain ⟨i, _, hb, _⟩ := h r (by rw [e]; exact List.mem_cons_self ..)
    unfold bitI at hb
    simp at hb
theorem chV_zero {D E : List (List Int)} (hs : spB D = true) : chV D E 0 = -1 := by
  have hn := (spB_len hs).1
  refine unlV_no fun q => ?_
  have h := q.2.2.2.1
  rw [show prs D.length E.length ((0 : Nat) : Int) = [] from prs_zero _ _] at h
  have h0 : mskI [] 0 = 0 := rfl
  have hp : (2 : Int) ^ 1 ≤ 2 ^ D.length := by exact_mod_cast Nat.pow_le_pow_right (by decide) hn
  omega
theorem uns_from {D E : List (List Int)} (hs : spB D = true) (_ht : spB E = true) : unsS D E = itR (fun ch s => if 0 ≤ chV D E ch ∧ (s < 0 ∨ chV D E ch < s) then chV D E ch else s) (2 ^ (D.length * E.length) - 1) 1 (-1) := by
  have h1 : 1 ≤ 2 ^ (D.length * E.length) := Nat.one_le_two_pow
  obtain ⟨g, hg⟩ : ∃ g, 2 ^ (D.length * E.length) = g + 1 := ⟨2 ^ (D.length * E.length) - 1, by omega⟩
  unfold unsS
  rw [hg, itR, chV_zero hs]
  show itR _ g 1 (if 0 ≤ (-1 : Int) ∧ _ then _ else _) = itR _ (g + 1 - 1) 1 (-1)
  rw [if_neg (fun h => absurd h.1 (by decide)), Nat.add_sub_cancel]
/-- all pairs serve -/
theorem some_choice {D E : List (List Int)} (hs : spB D = true) (ht : spB E = true) (h3 : D.length ≤ 3) (k3 : E.length ≤ 3) : ∃ x, ChS D E x := by
  have key : ∀ n m : Fin 4, 1 ≤ n.val → 1 ≤ m.val → (mskI (prs n.val m.val ((2 ^ (n.val * m.val) - 1 : Nat) : Int)) 0 = 2 ^ n.val - 1 ∧ mskI (prs n.val m.val ((2 ^ (n.val * m.val) - 1 : Nat) : Int)) 1 = 2 ^ m.val - 1) ∧ (prs n.val m.val ((2 ^ (n.val * m.val) - 1 : Nat) : Int)).all (fun r => decide (r.length = 2 ∧ 0 ≤ ix r 0 ∧ ix r 0 < n.val ∧ 0 ≤ ix r 1 ∧ ix r 1 < m.val)) = true := by decide +kernel
  obtain ⟨n1, -⟩ := spB_len hs
  obtain ⟨m1, -⟩ := spB_len ht
  obtain ⟨⟨a1, a2⟩, a3⟩ := key ⟨D.length, by omega⟩ ⟨E.length, by omega⟩ n1 m1
  have hp : 1 ≤ 2 ^ (D.length * E.length) := Nat.one_le_two_pow
  have hok : okU D E (prs D.length E.length ((2 ^ (D.length * E.length) - 1 : Nat) : Int)) := by
    refine ⟨fun k hk => ?_, a1, a2⟩
    have := List.all_eq_true.1 a3 (row (prs D.length E.length ((2 ^ (D.length * E.length) - 1 : Nat) : Int)) k) (by rw [row_of hk]; exact List.getElem_mem _)
    have h := of_decide_eq_true this
    exact ⟨h.1, ⟨h.2.1, h.2.2.1⟩, ⟨h.2.2.2.1, h.2.2.2.2⟩⟩
  have hv : chV D E (2 ^ (D.length * E.length) - 1) = unlI D E (prs D.length E.length ((2 ^ (D.length * E.length) - 1 : Nat) : Int)) := unlV_yes ⟨hs, ht, hok⟩
  exact ⟨_, 2 ^ (D.length * E.length) - 1, by omega, by rw [hv]; exact (unl_bd hs ht hok.1).1, rfl⟩
set_option maxRecDepth 100000 in
set_option maxHeartbeats 8000000 in
theorem sUnlikeSpaces_any (A : Option Addr) (ca : Nat) (D : List (List Int)) (B : Option Addr) (cb : Nat) (E : List (List Int)) (w : World) (hD : Mat w A ca D) (hE : Mat w B cb E) :
    Calls Try.prog 6 #[.slice A D.length ca, .slice B E.length cb] w fun e w' => e = .returned (.int .i64 (unsV D E)) ∧ Ext w w' := by
  have HMD := Lib.hid hD
  have HME := Lib.hid hE
  have HCD := Lib.hid (fun W (q : Mat W A ca D) => SpaceOk_any A ca D W q)
  have HCE := Lib.hid (fun W (q : Mat W B cb E) => SpaceOk_any B cb E W q)
  have hlD := hD.1
  have hmD := hD.2.1
  have hlE := hE.1
  have hmE := hE.2.1
  unfold maxLen at hmD hmE
  cases hs : spB D with
  | false =>
    have HF := Lib.hid (show unsV D E = -1 from if_neg fun q => absurd (hs.symm.trans q.1) (by decide))
    rw [hs] at HCD
    clear hs hD hE
    go_enter Try.func6, Try.ntmps6
    go_wp2_with fail
    refine (HCD.out _ (HMD.out.ext (by repeat (first | exact Ext.refl _ | assumption | apply Ext.drewN' | apply Ext.alloc' | refine Ext.trans ?_ (by assumption))))).mono ?_
    rintro e w1 ⟨rfl, m1, rfl⟩
    go_wp2
    go_ret
    exact ⟨ret_int HF.out.symm, (by repeat (first | exact Ext.refl _ | assumption | apply Ext.drewN' | apply Ext.alloc' | refine Ext.trans ?_ (by assumption)))⟩
  | true =>
  cases ht : spB E with
  | false =>
    have HF := Lib.hid (show unsV D E = -1 from if_neg fun q => absurd (ht.symm.trans q.2.1) (by decide))
    rw [hs] at HCD
    rw [ht] at HCE
    clear hs ht hD hE
    go_enter Try.func6, Try.ntmps6
    go_wp2_with fail
    refine (HCD.out _ (HMD.out.ext (by repeat (first | exact Ext.refl _ | assumption | apply Ext.drewN' | apply Ext.alloc' | refine Ext.trans ?_ (by assumption))))).mono ?_
    rintro e w1 ⟨rfl, m1, rfl⟩
    go_wp2_with fail
    refine (HCE.out _ (HME.out.ext (by repeat (first | exact Ext.refl _ | assumption | apply Ext.drewN' | apply Ext.alloc' | refine Ext.trans ?_ (by assumption))))).mono ?_
    rintro e w2 ⟨rfl, m2, rfl⟩
    go_wp2
    go_ret
    exact ⟨ret_int HF.out.symm, (by repeat (first | exact Ext.refl _ | assumption | apply Ext.drewN' | apply Ext.alloc' | refine Ext.trans ?_ (by assumption)))⟩
  | true =>
  rw [hs] at HCD
  rw [ht] at HCE
  by_cases h3 : D.length ≤ 3
  rotate_left
  · have h3' : (3 : Int) < (D.length : Nat) := by omega
    have HF := Lib.hid (show unsV D E = -1 from if_neg fun q => h3 q.2.2.1)
    clear hs ht hD hE h3
    go_enter Try.func6, Try.ntmps6
    go_wp2_with fail
    refine (HCD.out _ (HMD.out.ext (by repeat (first | exact Ext.refl _ | assumption | apply Ext.drewN' | apply Ext.alloc' | refine Ext.trans ?_ (by assumption))))).mono ?_
    rintro e w1 ⟨rfl, m1, rfl⟩
    go_wp2_with fail
    refine (HCE.out _ (HME.out.ext (by repeat (first | exact Ext.refl _ | assumption | apply Ext.drewN' | apply Ext.alloc' | refine Ext.trans ?_ (by assumption))))).mono ?_
    rintro e w2 ⟨rfl, m2, rfl⟩
    go_wp2
    go_ret
    exact ⟨ret_int HF.out.symm, (by repeat (first | exact Ext.refl _ | assumption | apply Ext.drewN' | apply Ext.alloc' | refine Ext.trans ?_ (by assumption)))⟩
  have h3' : ¬ (3 : Int) < (D.length : Nat) := by omega
  by_cases k3 : E.length ≤ 3
  rotate_left
  · have k3' : (3 : Int) < (E.length : Nat) := by omega
    have HF := Lib.hid (show unsV D E = -1 from if_neg fun q => k3 q.2.2.2)
    clear hs ht hD hE k3
    go_enter Try.func6, Try.ntmps6
    go_wp2_with fail
    refine (HCD.out _ (HMD.out.ext (by repeat (first | exact Ext.refl _ | assumption | apply Ext.drewN' | apply Ext.alloc' | refine Ext.trans ?_ (by assumption))))).mono ?_
    rintro e w1 ⟨rfl, m1, rfl⟩
    go_wp2_with fail
    refine (HCE.out _ (HME.out.ext (by repeat (first | exact Ext.refl _ | assumption | apply Ext.drewN' | apply Ext.alloc' | refine Ext.trans ?_ (by assumption))))).mono ?_
    rintro e w2 ⟨rfl, m2, rfl⟩
    go_wp2
    go_ret
    exact ⟨ret_int HF.out.symm, (by repeat (first | exact Ext.refl _ | assumption | apply Ext.drewN' | apply Ext.alloc' | refine Ext.trans ?_ (by assumption)))⟩
  · have k3' : ¬ (3 : Int) < (E.length : Nat) := by omega
    have HF := Lib.hid (show unsV D E = unsS D E from (if_pos ⟨hs, ht, h3, k3⟩).trans (uns_same (some_choice hs ht h3 k3)).symm)
    have n1 := (spB_len hs).1
    have m1 := (spB_len ht).1
    have HU := Lib.hid (fun (ch : Nat) C cc W (q1 : Mat W A ca D) (q2 : Mat W B cb E) (q3 : Mat W C cc (prs D.length E.length (ch : Int))) => sUnlikeBy_any A ca D B cb E C cc (prs D.length E.length (ch : Int)) W q1 q2 q3 (prs_pair h3 k3))
    have HV := Lib.hid (fun ch => chV_bd D E ch)
    have HC := Lib.hid (fun ch => chV_of (D := D) (E := E) (ch := ch))
    have HI := Lib.hid (uns_from (D := D) (E := E) hs ht)
    obtain ⟨NM, hNM⟩ : ∃ NM, D.length * E.length = NM := ⟨_, rfl⟩
    have hNM9 : NM ≤ 9 := by rw [← hNM]; exact Nat.mul_le_mul h3 k3
    have HPR := Lib.hid (show ∀ ch, prs D.length E.length ch = prsG E.length ch NM 0 [] from fun ch => by unfold prs; rw [hNM])
    obtain ⟨PW, hPW⟩ : ∃ PW, 2 ^ NM = PW := ⟨_, rfl⟩
    have hPW2 : 1 ≤ PW ∧ PW ≤ 512 := by
      rw [← hPW]
      exact ⟨Nat.one_le_two_pow, by have := Nat.pow_le_pow_right (show 0 < 2 by decide) hNM9; simpa using this⟩
    have hpwi : (2 : Int) ^ NM = (PW : Int) := by rw [← hPW]; simp
    have hmul : (D.length : Int) * (E.length : Nat) = (NM : Int) := by rw [← hNM]; simp
    rw [hNM, hPW] at HI
    clear hs ht hD hE hNM hPW
    have hNM9' : (NM : Int) ≤ 9 := by omega
    have wq1 : wrap64 (NM : Int) = NM := IntWalk.wrap64_in _ ⟨by omega, by omega⟩
    have wq2 : wrap64 (PW : Int) = PW := IntWalk.wrap64_in _ ⟨by omega, by omega⟩
    obtain ⟨m, hm⟩ : ∃ m, E.length = m := ⟨_, rfl⟩
    rw [hm] at HU HCE HPR HC hmul hlE k3 k3' m1
    rw [hm]
    have z1 : ¬ ((m : Int) = 0) := by omega
    have z2 : ((m : Int) == 0) = false := beq_eq_false_iff_ne.2 z1
    have m0 : 0 < m := m1
    have z3 : ¬ m = 0 := by omega
    clear hm m1
    go_enter Try.func6, Try.ntmps6
    go_wp2_with fail
    refine (HCD.out _ (HMD.out.ext (by repeat (first | exact Ext.refl _ | assumption | apply Ext.drewN' | apply Ext.alloc' | refine Ext.trans ?_ (by assumption))))).mono ?_
    rintro e w1 ⟨rfl, mm1, rfl⟩
    go_wp2_with fail
    refine (HCE.out _ (HME.out.ext (by repeat (first | exact Ext.refl _ | assumption | apply Ext.drewN' | apply Ext.alloc' | refine Ext.trans ?_ (by assumption))))).mono ?_
    rintro e w2 ⟨rfl, mm2, rfl⟩
    clear HCD HCE
    go_wp2
    go_loopg [6, 5] (PW - 1) (fun gch s6 s5 wr => ∃ (ch : Nat) (t : Int), ch + gch = PW ∧ 1 ≤ ch ∧ s6 = .int .i64 ch ∧ s5 = .int .i64 t ∧ Ext w wr ∧ -1 ≤ t ∧ t ≤ 60 ∧ Hid (itR (fun ch s => if 0 ≤ chV D E ch ∧ (s < 0 ∨ chV D E ch < s) then chV D E ch else s) gch ch t = unsS D E))
    case atStart => exact ⟨1, -1, by omega, Nat.le_refl _, rfl, rfl, (by repeat (first | exact Ext.refl _ | assumption | apply Ext.drewN' | apply Ext.alloc' | refine Ext.trans ?_ (by assumption))), by omega, by omega, Lib.hid HI.out.symm⟩
    case round =>
      obtain ⟨ch, t, hch, ch1, rfl, rfl, hxch, ht0, ht1, Hch⟩ := hrel
      by_cases hinch : ch < PW
      · obtain ⟨gch, rfl⟩ : ∃ g', gk = g' + 1 := ⟨gk - 1, by omega⟩
        have hinch' : (ch : Int) < (PW : Nat) := by omega
        have HB := Lib.hid (fun k => bitI_tmod (ch : Int) k (by omega))
        obtain ⟨wq, hwq⟩ : ∃ wq : World, wq = wr := ⟨_, rfl⟩
        subst hwq
        have Hxq := Lib.hid hxch
        go_wp2
        go_loopg [8, 7] NM (fun g s8 s7 wi => ∃ (i : Nat), i + g = NM ∧ s8 = .int .i64 i ∧ Hid (PrC m (ch : Int) wq wi s7 g i (prs D.length m (ch : Int))))
        case atStart => exact ⟨0, by omega, rfl, Lib.hid ⟨[], fun _ => .slice none 0 0, AccM.empty (Ext.refl _) _, by simp, (HPR.out _).symm⟩⟩
        case round =>
          obtain ⟨i, hi, rfl, HP⟩ := hrel
          have hxi := HP.out.x
          by_cases hini : i < NM
          · obtain ⟨gi, rfl⟩ : ∃ g', gk = g' + 1 := ⟨gk - 1, by omega⟩
            have hini' : (i : Int) < (NM : Nat) := by omega
            rcases bitI_01 (ch : Int) i with q | q
            · have HN := Lib.hid (HP.out.skip (by rw [q]; decide))
              have B1 : ((ch : Int) / 2 ^ i).tmod 2 = 0 := (HB.out i).trans q
              clear q HP
              go_wp2
              go_roundg gi
              case measure => omega
              case rel => exact ⟨i + 1, by omega, by go_num, Lib.hid (HN.out.on (by first | exact Ext.refl _ | exact Ext.drewN _ _))⟩
            · obtain ⟨x, hx⟩ : ∃ x : Int, ((i / m : Nat) : Int) = x := ⟨_, rfl⟩
              obtain ⟨y, hy⟩ : ∃ x : Int, ((i % m : Nat) : Int) = x := ⟨_, rfl⟩
              have HRUN := Lib.hid (fun ty (Q : Program) (q1 : Q.underlying 23 = _) q2 => prc_run (Q := Q) (ty := ty) (E := 28) rfl q1 q2 HP.out q (by omega) hx hy)
              have x1 : ((i : Int)).tdiv (m : Nat) = x := by rw [Int.tdiv_eq_ediv_of_nonneg (by omega), ← hx]; simp
              have x2 : ((i : Int)) / (m : Nat) = x := by rw [← hx]; simp
              have y1 : ((i : Int)).tmod (m : Nat) = y := by rw [Int.tmod_eq_emod_of_nonneg (by omega), ← hy]; simp
              have y2 : ((i : Int)) % (m : Nat) = y := by rw [← hy]; simp
              have xb : 0 ≤ x ∧ x ≤ 9 := by
                have := Nat.div_le_self i m
                rw [← hx]
                exact ⟨Int.natCast_nonneg _, by exact_mod_cast (show i / m ≤ 9 by omega)⟩
              have wx : wrap64 x = x := IntWalk.wrap64_in _ ⟨by omega, by omega⟩
              have wx' : IntKind.i64.wrap x = x := IntWalk.i64_in _ ⟨by omega, by omega⟩
              have B1 : ((ch : Int) / 2 ^ i).tmod 2 = 1 := (HB.out i).trans q
              clear q HP hx hy xb
              go_wp2_with fail
              go_region_held3 (fun _ => True) (trivial)
                ((refine step_ex rfl _ _ rfl _ (.slice (some ⟨_, 0, none⟩) 1 1) rfl rfl (HRUN.out _ _ Try.underlying23 infoR) ?_; rintro v6 w6 hP6))
              all_goals
                go_wp2
                go_roundg gi
                case measure => omega
                case rel => exact ⟨i + 1, by omega, by go_num, Lib.hid hP6⟩
          · have hini' : ¬ (i : Int) < (NM : Nat) := by omega
            obtain rfl : gk = 0 := by omega
            obtain ⟨A9, c9, e9, hM9⟩ := PrC.done HP.out
            subst e9
            have HM9 := Lib.hid hM9
            have HUK := Lib.hid (HU.out ch A9 c9)
            obtain ⟨v0, v1⟩ := HV.out ch
            rw [← HC.out ch] at HUK
            have Hst := Lib.hid (show itR (fun ch s => if 0 ≤ chV D E ch ∧ (s < 0 ∨ chV D E ch < s) then chV D E ch else s) (gch + 1) ch t = itR (fun ch s => if 0 ≤ chV D E ch ∧ (s < 0 ∨ chV D E ch < s) then chV D E ch else s) gch (ch + 1) (if 0 ≤ chV D E ch ∧ (t < 0 ∨ chV D E ch < t) then chV D E ch else t) from rfl)
            obtain ⟨V, hV⟩ : ∃ V, chV D E ch = V := ⟨_, rfl⟩
            rw [hV] at v0 v1 Hst HUK
            clear hM9 HP HB hV
            go_wp2_with fail
            refine (HUK.out _ (HMD.out.ext (Hxq.out.trans hxi)) (HME.out.ext (Hxq.out.trans hxi)) HM9.out).mono ?_
            rintro e w7 ⟨rfl, m7, rfl⟩
            have hxw := (Hxq.out.trans hxi)
            by_cases g1 : 0 ≤ V
            · by_cases g0 : t < 0
              · have HN := Lib.hid (show (if 0 ≤ V ∧ (t < 0 ∨ V < t) then V else t) = V from if_pos ⟨g1, .inl g0⟩)
                go_wp2
                go_roundg gch
                case measure => omega
                case rel => exact ⟨ch + 1, V, by omega, by omega, by go_num, by go_num, hxw.drewN' _, by omega, by omega, Lib.hid (by rw [← Hch.out, Hst.out, HN.out])⟩
              · by_cases g2 : V < t
                · have HN := Lib.hid (show (if 0 ≤ V ∧ (t < 0 ∨ V < t) then V else t) = V from if_pos ⟨g1, .inr g2⟩)
                  go_wp2
                  go_roundg gch
                  case measure => omega
                  case rel => exact ⟨ch + 1, V, by omega, by omega, by go_num, by go_num, hxw.drewN' _, by omega, by omega, Lib.hid (by rw [← Hch.out, Hst.out, HN.out])⟩
                · have HN := Lib.hid (show (if 0 ≤ V ∧ (t < 0 ∨ V < t) then V else t) = t from if_neg (fun h => by rcases h.2 with h | h; exact g0 h; exact g2 h))
                  go_wp2
                  go_roundg gch
                  case measure => omega
                  case rel => exact ⟨ch + 1, t, by omega, by omega, by go_num, by go_num, hxw.drewN' _, by omega, by omega, Lib.hid (by rw [← Hch.out, Hst.out, HN.out])⟩
            · have HN := Lib.hid (show (if 0 ≤ V ∧ (t < 0 ∨ V < t) then V else t) = t from if_neg (fun h => g1 h.1))
              go_wp2
              go_roundg gch
              case measure => omega
              case rel => exact ⟨ch + 1, t, by omega, by omega, by go_num, by go_num, hxw.drewN' _, by omega, by omega, Lib.hid (by rw [← Hch.out, Hst.out, HN.out])⟩
      · have hinch' : ¬ (ch : Int) < (PW : Nat) := by omega
        obtain rfl : gk = 0 := by omega
        go_wp2
        go_ret
        exact ⟨ret_int (by rw [HF.out, ← Hch.out]; rfl), hxch⟩
end Go.Proofs.Ytpkiodpocggfbaa
