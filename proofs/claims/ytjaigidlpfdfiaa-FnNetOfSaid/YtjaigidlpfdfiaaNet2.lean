/- What is proved: impl.NetOf returns the net and whether there is one. No condition. -/
import Derived.Test.YtjaigidlpfdfiaaNet
namespace Go.Proofs.Ytjaigidlpfdfiaa
open Go.RowKit
def netB (D : List (List Int)) (f : Int) : Bool := spB D && inB f 0 60
def netV (D : List (List Int)) (f : Int) : Int := if netB D f = true then (netN D f : Int) else -1
theorem u64_in {k : Nat} (h : k < 1000) : IntKind.u64.wrap (k : Int) = k := by
  rw [IntKind.wrap_u64]; omega
set_option maxRecDepth 100000 in
set_option maxHeartbeats 4000000 in
theorem iNetOf_any (A : Option Addr) (cp : Nat) (D : List (List Int)) (f : Int) (w : World) (h : Mat w A cp D) :
    Calls Try.prog 22 #[.slice A D.length cp, .int .i64 f] w fun e w' => e = .returned (.tuple #[.int .i64 (netV D f), .bool (netB D f)]) ∧ ∃ m, w' = w.drewN m := by
  have HM := Lib.hid h
  have HC := Lib.hid (isSpace_any A cp D w h)
  have Hd := Lib.hid (show netV D f = if netB D f = true then (netN D f : Int) else -1 from rfl)
  cases hs : spB D with
  | false =>
    have HF := Lib.hid (show netB D f = false by unfold netB; rw [hs]; rfl)
    rw [hs] at HC
    clear hs h
    go_enter Try.func22, Try.ntmps22
    go_wp2_with fail
    refine (HC.out).mono ?_
    rintro e w1 ⟨rfl, m1, rfl⟩
    go_wp2
    go_ret2
    exact ⟨by rw [Hd.out, HF.out, if_neg (by decide)]; rfl, _, by first | rfl | exact drewN_add _ _ _⟩
  | true =>
  rw [hs] at HC
  by_cases h1 : f < 0
  · have HF := Lib.hid (show netB D f = false by unfold netB inB; rw [hs, decide_eq_false (by omega)]; rfl)
    clear hs h
    go_enter Try.func22, Try.ntmps22
    go_wp2_with fail
    refine (HC.out).mono ?_
    rintro e w1 ⟨rfl, m1, rfl⟩
    go_wp2
    go_ret2
    exact ⟨by rw [Hd.out, HF.out, if_neg (by decide)]; rfl, _, by first | rfl | exact drewN_add _ _ _⟩
  by_cases h2 : 60 < f
  · have HF := Lib.hid (show netB D f = false by unfold netB inB; rw [hs, decide_eq_false (by omega)]; rfl)
    clear hs h
    go_enter Try.func22, Try.ntmps22
    go_wp2_with fail
    refine (HC.out).mono ?_
    rintro e w1 ⟨rfl, m1, rfl⟩
    go_wp2
    go_ret2
    exact ⟨by rw [Hd.out, HF.out, if_neg (by decide)]; rfl, _, by first | rfl | exact drewN_add _ _ _⟩
  · have HF := Lib.hid (show netB D f = true by unfold netB inB; rw [hs, decide_eq_true (by omega)]; rfl)
    obtain ⟨n1, n6⟩ := spB_len hs
    obtain ⟨N, hN⟩ : ∃ N : Nat, 2 ^ D.length = N := ⟨_, rfl⟩
    obtain ⟨N1, N64⟩ : 1 ≤ N ∧ N ≤ 64 := by rw [← hN]; exact pow_n n6
    have N2 : 2 ≤ N := by
      have := Nat.pow_le_pow_right (show 0 < 2 by decide) n1
      omega
    obtain ⟨P, hP⟩ : ∃ P : Int, (2 : Int) ^ D.length = P := ⟨_, rfl⟩
    have hPN : P = (N : Int) := by rw [← hP, ← hN]; simp
    have HOK := Lib.hid (fun k => (show okN D f k = decide (arI D k f = P - 1) by unfold okN; rw [hP]))
    have HT := Lib.hid (fun (k : Nat) (hk : k < 64) W (q : Mat W A cp D) => aroundSet_any A cp D k f W q (spB_far hs) (by omega) (by omega))
    have H1 := Lib.hid (show netN D f = netA D f (N - 1) 1 (N - 1) by unfold netN; rw [hN])
    have w5 : wrap64 P = P := IntWalk.wrap64_in _ ⟨by omega, by omega⟩
    have w6 : wrap64 (P - 1) = P - 1 := IntWalk.wrap64_in _ ⟨by omega, by omega⟩
    have n6' : (D.length : Int) ≤ 6 := by omega
    have P2 : 2 ≤ P := by omega
    have P64 : P ≤ 64 := by omega
    have HPN := Lib.hid hPN
    clear hs h hN hPN
    go_enter Try.func22, Try.ntmps22
    go_wp2_with fail
    refine (HC.out).mono ?_
    rintro e w1 ⟨rfl, m1, rfl⟩
    go_wp2
    go_loopg [8, 7] (N - 1) (fun g s8 s7 wr => ∃ (k m : Nat) (c : Int), k + g = N ∧ 1 ≤ k ∧ s8 = .int .i64 k ∧ s7 = .int .i64 c ∧ wr = w.drewN m ∧ Hid (∃ b : Nat, c = b ∧ b ≤ 63 ∧ netA D f g k b = netN D f))
    case atStart => exact ⟨1, _, P - 1, by omega, Nat.le_refl _, rfl, rfl, by first | rfl | exact drewN_add _ _ _, Lib.hid ⟨N - 1, by rw [HPN.out]; omega, by omega, H1.out.symm⟩⟩
    case round =>
      obtain ⟨k, mk, c, hk, k1, rfl, rfl, rfl, Hk⟩ := hrel
      obtain ⟨b, rfl, hb, hEQ⟩ := Hk.out
      have HEQ := Lib.hid hEQ
      clear Hk hEQ
      by_cases hin : k < N
      · obtain ⟨g', rfl⟩ : ∃ g', gk = g' + 1 := ⟨gk - 1, by omega⟩
        have hin' : (k : Int) ≤ P - 1 := by have := HPN.out; omega
        have hk64 : k < 64 := by omega
        have Hst := Lib.hid (show netA D f (g' + 1) k b = netA D f g' (k + 1) (if okN D f k = true ∧ popI k < popI b then k else b) from rfl)
        have hu1 := u64_in (k := k) (by omega)
        have hu2 := u64_in (k := b) (by omega)
        cases ho : okN D f k with
        | false =>
          have HN := Lib.hid (show (if okN D f k = true ∧ popI k < popI b then k else b) = b from if_neg (fun q => absurd (ho.symm.trans q.1) (by decide)))
          have hne : (arI D k f == P - 1) = false := by
            have := HOK.out k
            rw [ho] at this
            exact beq_eq_false_iff_ne.2 (of_decide_eq_false this.symm)
          clear ho
          go_wp2_with fail
          refine (HT.out k hk64 _ (HM.out.ext (by repeat (first | exact Ext.refl _ | assumption | apply Ext.drewN' | apply Ext.alloc' | refine Ext.trans ?_ (by assumption))))).mono ?_
          rintro e w2 ⟨rfl, m2, rfl⟩
          go_wp2
          go_roundg g'
          case measure => omega
          case rel => exact ⟨k + 1, _, b, by omega, by omega, by go_num, by go_num, by first | rfl | exact drewN_add _ _ _, Lib.hid ⟨b, rfl, hb, by rw [← HEQ.out, Hst.out, HN.out]⟩⟩
        | true =>
          have heq : arI D k f = P - 1 := by
            have := HOK.out k
            rw [ho] at this
            exact of_decide_eq_true this.symm
          have HAR := Lib.hid (HT.out k hk64)
          rw [heq] at HAR
          by_cases hp : popI k < popI b
          · have HN := Lib.hid (show (if okN D f k = true ∧ popI k < popI b then k else b) = k from if_pos ⟨ho, hp⟩)
            clear ho heq
            go_wp2_with fail
            refine (HAR.out _ (HM.out.ext (by repeat (first | exact Ext.refl _ | assumption | apply Ext.drewN' | apply Ext.alloc' | refine Ext.trans ?_ (by assumption))))).mono ?_
            rintro e w2 ⟨rfl, m2, rfl⟩
            go_wp2_with fail
            refine (ones_any k hk64 _).mono ?_
            rintro e w3 ⟨rfl, rfl⟩
            go_wp2_with fail
            refine (ones_any b (by omega) _).mono ?_
            rintro e w4 ⟨rfl, rfl⟩
            go_wp2
            go_roundg g'
            case measure => omega
            case rel => exact ⟨k + 1, _, k, by omega, by omega, by go_num, by go_num, by first | rfl | exact drewN_add _ _ _, Lib.hid ⟨k, rfl, by omega, by rw [← HEQ.out, Hst.out, HN.out]⟩⟩
          · have HN := Lib.hid (show (if okN D f k = true ∧ popI k < popI b then k else b) = b from if_neg (fun q => hp q.2))
            clear ho heq
            go_wp2_with fail
            refine (HAR.out _ (HM.out.ext (by repeat (first | exact Ext.refl _ | assumption | apply Ext.drewN' | apply Ext.alloc' | refine Ext.trans ?_ (by assumption))))).mono ?_
            rintro e w2 ⟨rfl, m2, rfl⟩
            go_wp2_with fail
            refine (ones_any k hk64 _).mono ?_
            rintro e w3 ⟨rfl, rfl⟩
            go_wp2_with fail
            refine (ones_any b (by omega) _).mono ?_
            rintro e w4 ⟨rfl, rfl⟩
            go_wp2
            go_roundg g'
            case measure => omega
            case rel => exact ⟨k + 1, _, b, by omega, by omega, by go_num, by go_num, by first | rfl | exact drewN_add _ _ _, Lib.hid ⟨b, rfl, hb, by rw [← HEQ.out, Hst.out, HN.out]⟩⟩
      · have hin' : ¬ (k : Int) ≤ P - 1 := by have := HPN.out; omega
        obtain rfl : gk = 0 := by omega
        go_wp2
        go_ret2
        exact ⟨by rw [Hd.out, HF.out, if_pos rfl, ← HEQ.out]; rfl, _, by first | rfl | exact drewN_add _ _ _⟩
end Go.Proofs.Ytjaigidlpfdfiaa
