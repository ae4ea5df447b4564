/- What is proved: spec.NetOf returns the net and whether there is one. No condition. -/
import Derived.Test.YtjaigidlpfdfiaaNet2
namespace Go.Proofs.Ytjaigidlpfdfiaa
open Go.RowKit
set_option maxRecDepth 100000 in
set_option maxHeartbeats 4000000 in
theorem sNetOf_any (A : Option Addr) (cp : Nat) (D : List (List Int)) (f : Int) (w : World) (h : Mat w A cp D) :
    Calls Try.prog 20 #[.slice A D.length cp, .int .i64 f] w fun e w' => e = .returned (.tuple #[.int .i64 (netV D f), .bool (netB D f)]) ∧ ∃ m, w' = w.drewN m := by
  have HM := Lib.hid h
  have HC := Lib.hid (fun W (q : Mat W A cp D) => SpaceOk_any A cp D W q)
  have Hd := Lib.hid (show netV D f = if netB D f = true then (netN D f : Int) else -1 from rfl)
  cases hs : spB D with
  | false =>
    have HF := Lib.hid (show netB D f = false by unfold netB; rw [hs]; rfl)
    rw [hs] at HC
    clear hs h
    go_enter Try.func20, Try.ntmps20
    go_wp2
    go_loopg [7, 6] 0 (fun g s7 s6 wr => ∃ m, s7 = .int .i64 1 ∧ s6 = .int .i64 (-1) ∧ wr = w.drewN m)
    case atStart => exact ⟨0, rfl, rfl, rfl⟩
    case round =>
      obtain ⟨m, rfl, rfl, rfl⟩ := hrel
      go_wp2_with fail
      refine (HC.out _ (HM.out.ext (by repeat (first | exact Ext.refl _ | assumption | apply Ext.drewN' | apply Ext.alloc' | refine Ext.trans ?_ (by assumption))))).mono ?_
      rintro e w1 ⟨rfl, m1, rfl⟩
      go_wp2
      go_ret2
      exact ⟨by rw [Hd.out, HF.out, if_neg (by decide)]; rfl, _, by first | rfl | exact drewN_add _ _ _⟩
  | true =>
  rw [hs] at HC
  cases hi : inB f 0 60 with
  | false =>
    have HF := Lib.hid (show netB D f = false by unfold netB; rw [hs, hi]; rfl)
    have HI := Lib.hid hi
    clear hs h hi
    go_enter Try.func20, Try.ntmps20
    go_wp2
    go_loopg [7, 6] 0 (fun g s7 s6 wr => ∃ m, s7 = .int .i64 1 ∧ s6 = .int .i64 (-1) ∧ wr = w.drewN m)
    case atStart => exact ⟨0, rfl, rfl, rfl⟩
    case round =>
      obtain ⟨m, rfl, rfl, rfl⟩ := hrel
      go_wp2_with fail
      refine (HC.out _ (HM.out.ext (by repeat (first | exact Ext.refl _ | assumption | apply Ext.drewN' | apply Ext.alloc' | refine Ext.trans ?_ (by assumption))))).mono ?_
      rintro e w1 ⟨rfl, m1, rfl⟩
      go_wp2_with fail
      refine (l1In_any _ _ _ _).mono ?_
      rintro e w2 ⟨rfl, rfl⟩
      rw [HI.out]
      go_wp2
      go_ret2
      exact ⟨by rw [Hd.out, HF.out, if_neg (by decide)]; rfl, _, by first | rfl | exact drewN_add _ _ _⟩
  | true =>
    have HF := Lib.hid (show netB D f = true by unfold netB; rw [hs, hi]; rfl)
    have HI := Lib.hid hi
    have hf0 : 0 ≤ f := (of_decide_eq_true hi).1
    obtain ⟨n1, n6⟩ := spB_len hs
    obtain ⟨⟨b1, b2, -, -⟩, hnet⟩ := net_inv hs hf0
    obtain ⟨N, hN⟩ : ∃ N : Nat, 2 ^ D.length = N := ⟨_, rfl⟩
    obtain ⟨N1, N64⟩ : 1 ≤ N ∧ N ≤ 64 := by rw [← hN]; exact pow_n n6
    obtain ⟨P, hP⟩ : ∃ P : Int, (2 : Int) ^ D.length = P := ⟨_, rfl⟩
    have hPN : P = (N : Int) := by rw [← hP, ← hN]; simp
    have HOK := Lib.hid (fun k => (show okN D f k = decide (arI D k f = P - 1) by unfold okN; rw [hP]))
    have HT := Lib.hid (fun (k : Nat) (k1 : 1 ≤ k) (hk : k < N) W (q : Mat W A cp D) => (show Calls Try.prog 16 #[.slice A D.length cp, .int .i64 k, .int .i64 f] W fun e w' => e = .returned (.int .i64 (arI D k f)) ∧ ∃ m, w' = W.drewN m from by
      have := sAroundSet_any A cp D k f W q
      rw [show arV D k f = arI D k f from if_pos ⟨by unfold setB; rw [hs, hP, hPN, decide_eq_true (by omega)]; rfl, hi⟩] at this
      exact this))
    rw [hN] at hnet b2
    have H1 := Lib.hid hnet
    have HB1 := Lib.hid b1
    have w5 : wrap64 P = P := IntWalk.wrap64_in _ ⟨by omega, by omega⟩
    have w6 : wrap64 (P - 1) = P - 1 := IntWalk.wrap64_in _ ⟨by omega, by omega⟩
    have v5 : IntKind.i64.wrap P = P := IntWalk.i64_in _ ⟨by omega, by omega⟩
    have v6 : IntKind.i64.wrap (P - 1) = P - 1 := IntWalk.i64_in _ ⟨by omega, by omega⟩
    have n6' : (D.length : Int) ≤ 6 := by omega
    have P1 : 1 ≤ P := by omega
    have P64 : P ≤ 64 := by omega
    have HPN := Lib.hid hPN
    have HMY := Lib.hid l8Many_any
    clear hs h hN hPN hi hnet hf0 b1
    go_enter Try.func20, Try.ntmps20
    go_wp2
    go_loopg [7, 6] (N - 1) (fun g s7 s6 wr => ∃ (k m : Nat) (c : Int), k + g = N ∧ 1 ≤ k ∧ s7 = .int .i64 k ∧ s6 = .int .i64 c ∧ wr = w.drewN m ∧ (c = -1 ∨ ∃ b : Nat, c = b ∧ b ≤ 63) ∧ Hid (netS D f g k c = netN D f))
    case atStart => exact ⟨1, 0, -1, by omega, Nat.le_refl _, rfl, rfl, rfl, .inl rfl, H1⟩
    case round =>
      obtain ⟨k, mk, c, hk, k1, rfl, rfl, rfl, hcc, Hk⟩ := hrel
      by_cases hin : k < N
      · obtain ⟨g', rfl⟩ : ∃ g', gk = g' + 1 := ⟨gk - 1, by omega⟩
        have hin' : (k : Int) < P := by have := HPN.out; omega
        have hk64 : k < 64 := by omega
        have Hst := Lib.hid (show netS D f (g' + 1) k c = netS D f g' (k + 1) (if okN D f k = true ∧ (c < 0 ∨ popI k < popI c) then (k : Int) else c) from rfl)
        have HTk := Lib.hid (HT.out k k1 hin)
        cases ho : okN D f k with
        | false =>
          have HN := Lib.hid (show (if okN D f k = true ∧ (c < 0 ∨ popI k < popI c) then (k : Int) else c) = c from if_neg (fun q => absurd (ho.symm.trans q.1) (by decide)))
          have hne : (arI D k f == P - 1) = false := by
            have := HOK.out k
            rw [ho] at this
            exact beq_eq_false_iff_ne.2 (of_decide_eq_false this.symm)
          clear ho
          go_wp2_with fail
          refine (HC.out _ (HM.out.ext (by repeat (first | exact Ext.refl _ | assumption | apply Ext.drewN' | apply Ext.alloc' | refine Ext.trans ?_ (by assumption))))).mono ?_
          rintro e w1 ⟨rfl, m1, rfl⟩
          go_wp2_with fail
          refine (l1In_any _ _ _ _).mono ?_
          rintro e w2 ⟨rfl, rfl⟩
          rw [HI.out]
          go_wp2
          go_big_quiet ((go_at_call 16; exact quiet_add (HTk.out _ (HM.out.ext (by repeat (first | exact Ext.refl _ | assumption | apply Ext.drewN' | apply Ext.alloc' | refine Ext.trans ?_ (by assumption)))))))
          go_wp2
          go_roundg g'
          case measure => omega
          case rel => exact ⟨k + 1, _, c, by omega, by omega, by go_num, by go_num, by first | rfl | exact drewN_add _ _ _, hcc, Lib.hid (by rw [← Hk.out, Hst.out, HN.out])⟩
        | true =>
          have heq : arI D k f = P - 1 := by
            have := HOK.out k
            rw [ho] at this
            exact of_decide_eq_true this.symm
          rw [heq] at HTk
          clear heq
          rcases hcc with rfl | ⟨b, rfl, hb⟩
          · have HN := Lib.hid (show (if okN D f k = true ∧ ((-1 : Int) < 0 ∨ popI k < popI (-1)) then (k : Int) else -1) = k from if_pos ⟨ho, .inl (by decide)⟩)
            clear ho
            go_wp2_with fail
            refine (HC.out _ (HM.out.ext (by repeat (first | exact Ext.refl _ | assumption | apply Ext.drewN' | apply Ext.alloc' | refine Ext.trans ?_ (by assumption))))).mono ?_
            rintro e w1 ⟨rfl, m1, rfl⟩
            go_wp2_with fail
            refine (l1In_any _ _ _ _).mono ?_
            rintro e w2 ⟨rfl, rfl⟩
            rw [HI.out]
            go_wp2
            go_big_quiet ((go_at_call 16; exact quiet_add (HTk.out _ (HM.out.ext (by repeat (first | exact Ext.refl _ | assumption | apply Ext.drewN' | apply Ext.alloc' | refine Ext.trans ?_ (by assumption)))))))
            go_wp2
            go_roundg g'
            case measure => omega
            case rel => exact ⟨k + 1, _, k, by omega, by omega, by go_num, by go_num, by first | rfl | exact drewN_add _ _ _, .inr ⟨k, rfl, by omega⟩, Lib.hid (by rw [← Hk.out, Hst.out, HN.out])⟩
          · have hb0 : ¬ (b : Int) < 0 := by omega
            have hb0' : decide ((b : Int) < 0) = false := decide_eq_false hb0
            by_cases hp : popI k < popI b
            · have HN := Lib.hid (show (if okN D f k = true ∧ ((b : Int) < 0 ∨ popI k < popI b) then (k : Int) else b) = k from if_pos ⟨ho, .inr hp⟩)
              clear ho
              go_wp2_with fail
              refine (HC.out _ (HM.out.ext (by repeat (first | exact Ext.refl _ | assumption | apply Ext.drewN' | apply Ext.alloc' | refine Ext.trans ?_ (by assumption))))).mono ?_
              rintro e w1 ⟨rfl, m1, rfl⟩
              go_wp2_with fail
              refine (l1In_any _ _ _ _).mono ?_
              rintro e w2 ⟨rfl, rfl⟩
              rw [HI.out]
              go_wp2
              go_big_quiet ((first | (go_at_call 16; exact quiet_add (HTk.out _ (HM.out.ext (by repeat (first | exact Ext.refl _ | assumption | apply Ext.drewN' | apply Ext.alloc' | refine Ext.trans ?_ (by assumption)))))) | (go_at_call 48; exact quiet_add (HMY.out _ (by omega) _))))
              go_wp2
              go_roundg g'
              case measure => omega
              case rel => exact ⟨k + 1, _, k, by omega, by omega, by go_num, by go_num, by first | rfl | exact drewN_add _ _ _, .inr ⟨k, rfl, by omega⟩, Lib.hid (by rw [← Hk.out, Hst.out, HN.out])⟩
            · have HN := Lib.hid (show (if okN D f k = true ∧ ((b : Int) < 0 ∨ popI k < popI b) then (k : Int) else b) = b from if_neg (fun q => by rcases q.2 with q | q; exact hb0 q; exact hp q))
              clear ho
              go_wp2_with fail
              refine (HC.out _ (HM.out.ext (by repeat (first | exact Ext.refl _ | assumption | apply Ext.drewN' | apply Ext.alloc' | refine Ext.trans ?_ (by assumption))))).mono ?_
              rintro e w1 ⟨rfl, m1, rfl⟩
              go_wp2_with fail
              refine (l1In_any _ _ _ _).mono ?_
              rintro e w2 ⟨rfl, rfl⟩
              rw [HI.out]
              go_wp2
              go_big_quiet ((first | (go_at_call 16; exact quiet_add (HTk.out _ (HM.out.ext (by repeat (first | exact Ext.refl _ | assumption | apply Ext.drewN' | apply Ext.alloc' | refine Ext.trans ?_ (by assumption)))))) | (go_at_call 48; exact quiet_add (HMY.out _ (by omega) _))))
              go_wp2
              go_roundg g'
              case measure => omega
              case rel => exact ⟨k + 1, _, b, by omega, by omega, by go_num, by go_num, by first | rfl | exact drewN_add _ _ _, .inr ⟨b, rfl, hb⟩, Lib.hid (by rw [← Hk.out, Hst.out, HN.out])⟩
      · have hin' : ¬ (k : Int) < P := by have := HPN.out; omega
        obtain rfl : gk = 0 := by omega
        have HE := Lib.hid (show c = (netN D f : Int) from Hk.out)
        have hc0 : 0 < c := by have := HE.out; have := HB1.out; omega
        clear hcc
        go_wp2_with fail
        refine (HC.out _ (HM.out.ext (by repeat (first | exact Ext.refl _ | assumption | apply Ext.drewN' | apply Ext.alloc' | refine Ext.trans ?_ (by assumption))))).mono ?_
        rintro e w1 ⟨rfl, m1, rfl⟩
        go_wp2_with fail
        refine (l1In_any _ _ _ _).mono ?_
        rintro e w2 ⟨rfl, rfl⟩
        rw [HI.out]
        go_wp2
        go_ret2
        exact ⟨by rw [Hd.out, HF.out, if_pos rfl, ← HE.out]; rfl, _, by first | rfl | exact drewN_add _ _ _⟩
end Go.Proofs.Ytjaigidlpfdfiaa
