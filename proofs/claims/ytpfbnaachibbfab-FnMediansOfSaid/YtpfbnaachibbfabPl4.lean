/- What is proved: plain laws of medians; sumOf and hasInt of the laws. Conditions: those of each. -/
import Derived.Test.YtpfbnaachibbfabPl1b
import Derived.Test.YtpfbnaachibbfabHelp
namespace Go.Proofs.Ytpfbnaachibbfab
open Go.RowKit
theorem selN_all (p : Nat → Bool) : ∀ n : Nat, (∀ x ∈ selN p n, ∃ k, k < n ∧ x = (k : Int) ∧ p k = true) ∧ ((∃ k, k < n ∧ p k = true) → 0 < (selN p n).length)
  | 0 => ⟨fun x hx => (by rw [show selN p 0 = [] from rfl] at hx; cases hx), fun ⟨k, hk, _⟩ => absurd hk (by omega)⟩
  | n + 1 => by
    obtain ⟨h1, h2⟩ := selN_all p n
    rw [selN_succ]
    refine ⟨fun x hx => ?_, fun ⟨k, hk, hp⟩ => ?_⟩
    · rcases List.mem_append.1 hx with hx | hx
      · obtain ⟨k, hk, e, hp⟩ := h1 x hx
        exact ⟨k, by omega, e, hp⟩
      · by_cases q : p n = true
        · rw [if_pos q, List.mem_singleton] at hx
          exact ⟨n, by omega, hx, q⟩
        · rw [if_neg q] at hx; cases hx
    · by_cases q : p n = true
      · rw [if_pos q]; simp
      · have : k < n := by
          by_cases e : k = n
          · subst e; exact absurd hp q
          · omega
        have := h2 ⟨k, this, hp⟩
        simp; omega
set_option maxHeartbeats 1000000 in
theorem sumOf_any (A : Option Addr) (c : Nat) (ws : List Int) (w : World) (h : Ints w A c ws) (hl : ws.length ≤ 7) (hb : ∀ i, i < ws.length → 0 ≤ ix ws i ∧ ix ws i ≤ 9) :
    Calls Try.prog 37 #[.slice A ws.length c] w fun e w' => e = .returned (.int .i64 (sm (ix ws) ws.length)) ∧ ∃ m, w' = w.drewN m := by
  obtain ⟨h1, h2, b, o, hA, hc⟩ := h
  unfold maxLen at h2
  have HB := Lib.hid hb
  clear hb
  go_enter Try.func37, Try.ntmps37
  go_wp2
  go_loopg [4, 3] (ws.length) (fun g s4 s3 wr => ∃ (i m : Nat) (s : Int), i + g = ws.length ∧ s4 = .int .i64 i ∧ s3 = .int .i64 s ∧ wr = w.drewN m ∧ 0 ≤ s ∧ s ≤ 9 * i ∧ Hid (itR (fun k s => s + ix ws k) g i s = sm (ix ws) ws.length))
  case atStart => exact ⟨0, _, _, by omega, rfl, rfl, by first | rfl | exact drewN_0 _ | exact drewN_add _ _ _, by omega, by omega, Lib.hid (rfl)⟩
  case round =>
    obtain ⟨i, mi, s, hi, rfl, rfl, rfl, hs0, hs1, Hi⟩ := hrel
    by_cases hini : i < ws.length
    · obtain ⟨gi, rfl⟩ : ∃ g', gk = g' + 1 := ⟨gk - 1, by omega⟩
      have hini' : (i : Int) < (ws.length : Nat) := by omega
      obtain rfl := hA (by omega)
      have c1 := hc i hini
      obtain ⟨b0, b1⟩ := HB.out i hini
      clear hc
      go_wp2
      go_roundg gi
      case measure => omega
      case rel => exact ⟨i + 1, _, s + ix ws i, by omega, by go_num, by first | rfl | go_num, by first | rfl | exact drewN_0 _ | exact drewN_add _ _ _, by omega, by omega, Lib.hid (by rw [← Hi.out]; rfl)⟩
    · have hini' : ¬ (i : Int) < (ws.length : Nat) := by omega
      obtain rfl : gk = 0 := by omega
      clear hc
      go_wp2
      go_ret
      exact ⟨ret_int (by rw [← Hi.out]; rfl), _, rfl⟩
theorem sumV_pt {D : List (List Int)} {ws : List Int} (hW : weightsB D ws = true) {k : Nat} (hk : k < D.length) : sumV D ws (k : Int) = sumP D ws k := by
  unfold sumV
  rw [if_pos ⟨hW, by unfold pointB; rw [(weightsB_parts hW).1, decide_eq_true (by omega)]; rfl⟩]
  simp

theorem meds_first {D : List (List Int)} {ws : List Int} (hW : weightsB D ws = true) : 0 < (medsV D ws).length ∧ ∃ j : Nat, j < D.length ∧ ix (medsV D ws) 0 = (j : Int) ∧ sumP D ws j = leastS D ws := by
  obtain ⟨hs, _, _⟩ := weightsB_parts hW
  obtain ⟨n1, n6⟩ := spB_len hs
  have hm : medsV D ws = selN (medP D ws) D.length := by unfold medsV; rw [if_pos hW]
  obtain ⟨hall, hex⟩ := selN_all (medP D ws) D.length
  obtain ⟨k, hk, hke⟩ := (least_spec (sumP D ws) D.length (by omega)).2
  have hpos : 0 < (medsV D ws).length := by
    rw [hm]
    exact hex ⟨k, hk, decide_eq_true hke.symm⟩
  obtain ⟨j, hj, hje, hjp⟩ := hall (ix (medsV D ws) 0) (by rw [ix_of hpos]; rw [← hm]; exact List.getElem_mem _)
  exact ⟨hpos, j, hj, hje, of_decide_eq_true hjp⟩
def hasI (xs : List Int) (k : Int) : Bool := xs.any fun x => x == k
def hasR (xs : List Int) (k : Int) : Nat → Nat → Bool
  | 0, _ => false
  | g + 1, i => if (ix xs i == k) = true then true else hasR xs k g (i + 1)
theorem hasR_all (xs : List Int) (k : Int) : ∀ g i, i + g = xs.length → hasR xs k g i = (xs.drop i).any fun x => x == k
  | 0, i, h => by rw [List.drop_eq_nil_of_le (by omega)]; rfl
  | g + 1, i, h => by
    have hi : i < xs.length := by omega
    rw [hasR, List.drop_eq_getElem_cons hi, List.any_cons, ← ix_of hi, hasR_all xs k g (i + 1) (by omega)]
    cases ix xs i == k <;> simp
set_option maxHeartbeats 1000000 in
theorem hasInt_any (A : Option Addr) (c : Nat) (xs : List Int) (k : Int) (w : World) (h : Ints w A c xs) :
    Calls Try.prog 38 #[.slice A xs.length c, .int .i64 k] w fun e w' => e = .returned (.bool (hasI xs k)) ∧ ∃ m, w' = w.drewN m := by
  obtain ⟨h1, h2, b, o, hA, hc⟩ := h
  unfold maxLen at h2
  have HV := Lib.hid (show hasR xs k xs.length 0 = hasI xs k from hasR_all xs k xs.length 0 (by omega))
  go_enter Try.func38, Try.ntmps38
  go_wp2
  go_loopg [5] (xs.length) (fun g s5 wr => ∃ (i m : Nat), i + g = xs.length ∧ s5 = .int .i64 i ∧ wr = w.drewN m ∧ Hid (hasR xs k g i = hasI xs k))
  case atStart => exact ⟨0, _, by omega, rfl, by first | rfl | exact drewN_0 _ | exact drewN_add _ _ _, Lib.hid (HV.out)⟩
  case round =>
    obtain ⟨i, mi, hi, rfl, rfl, Hi⟩ := hrel
    by_cases hini : i < xs.length
    · obtain ⟨gi, rfl⟩ : ∃ g', gk = g' + 1 := ⟨gk - 1, by omega⟩
      have hini' : (i : Int) < (xs.length : Nat) := by omega
      obtain rfl := hA (by omega)
      have c1 := hc i hini
      clear hc
      have Hst := Lib.hid (show hasR xs k (gi + 1) i = if (ix xs i == k) = true then true else hasR xs k gi (i + 1) from rfl)
      cases e : (ix xs i == k) with
      | true =>
        rw [e] at Hst
        go_wp2
        go_ret
        exact ⟨ret_bool (by rw [← Hi.out, Hst.out]; rfl), _, by first | rfl | exact drewN_add _ _ _⟩
      | false =>
        rw [e] at Hst
        go_wp2
        go_roundg gi
        case measure => omega
        case rel => exact ⟨i + 1, _, by omega, by go_num, by first | rfl | exact drewN_0 _ | exact drewN_add _ _ _, Lib.hid (by rw [← Hi.out, Hst.out]; rfl)⟩
    · have hini' : ¬ (i : Int) < (xs.length : Nat) := by omega
      obtain rfl : gk = 0 := by omega
      clear hc
      go_wp2
      go_ret
      exact ⟨ret_bool (by rw [← Hi.out]; rfl), _, rfl⟩
theorem selN_mem (p : Nat → Bool) : ∀ n k : Nat, k < n → p k = true → (k : Int) ∈ selN p n
  | 0, k, h, _ => absurd h (by omega)
  | n + 1, k, h, hp => by
    rw [selN_succ]
    by_cases e : k = n
    · subst e; rw [if_pos hp]; simp
    · exact List.mem_append_left _ (selN_mem p n k (by omega) hp)
theorem half_median {D : List (List Int)} {ws : List Int} (hW : weightsB D ws = true) {k : Nat} (hk : k < D.length) (h2 : sm (ix ws) ws.length ≤ 2 * ix ws k) : hasI (medsV D ws) (k : Int) = true := by
  obtain ⟨hs, hl, hw⟩ := weightsB_parts hW
  obtain ⟨n1, n6⟩ := spB_len hs
  have hc := (farB_parts (spB_far hs)).2.2
  have key : ∀ j, j < D.length → sumP D ws k ≤ sumP D ws j := fun j hj => by
    have step : ∀ n : Nat, n ≤ ws.length → sm (fun i => ix ws i * at2 D k i) n - sm (fun i => ix ws i * at2 D j i) n ≤ at2 D j k * (sm (ix ws) n - if k < n then 2 * ix ws k else 0) := by
      intro n
      induction n with
      | zero => intro _; simp [sm_0]
      | succ n ih =>
        intro hn
        have h1 := ih (by omega)
        have hwn := hw n (by omega)
        rw [sm_succ, sm_succ (fun i => ix ws i * at2 D j i), sm_succ (ix ws)]
        by_cases e : k = n
        · subst e
          rw [if_neg (by omega)] at h1
          rw [if_pos (by omega)]
          have z := (hc k hk k hk).2.2.2.2 rfl
          have e1 : at2 D j k * (sm (ix ws) k + ix ws k - 2 * ix ws k) = at2 D j k * (sm (ix ws) k - 0) - ix ws k * at2 D j k := by
            rw [show sm (ix ws) k + ix ws k - 2 * ix ws k = (sm (ix ws) k - 0) - ix ws k by omega, Int.mul_sub, Int.mul_comm (at2 D j k) (ix ws k)]
          rw [e1, z, Int.mul_zero]
          omega
        · have t := spB_tri hs (i := k) (k := n) (j := j) hk (by omega) hj
          have s := (hc k hk j hj).2.2.1
          have m := Int.mul_le_mul_of_nonneg_left t hwn.1
          rw [Int.mul_add, s, Int.mul_comm _ (at2 D j k)] at m
          have e2 : (if k < n + 1 then 2 * ix ws k else 0) = (if k < n then 2 * ix ws k else 0) := by
            by_cases q : k < n
            · rw [if_pos q, if_pos (by omega)]
            · rw [if_neg q, if_neg (by omega)]
          rw [e2, show sm (ix ws) n + ix ws n - (if k < n then 2 * ix ws k else 0) = (sm (ix ws) n - (if k < n then 2 * ix ws k else 0)) + ix ws n by omega, Int.mul_add]
          omega
    have h3 := step ws.length (Nat.le_refl _)
    rw [if_pos (by omega)] at h3
    have h4 : at2 D j k * (sm (ix ws) ws.length - 2 * ix ws k) ≤ 0 := Int.mul_nonpos_of_nonneg_of_nonpos (hc j hj k hk).1 (by omega)
    rw [sumP_sm, sumP_sm]
    omega
  have hmin : sumP D ws k = leastS D ws := by
    obtain ⟨j, hj, e⟩ := (least_spec (sumP D ws) D.length (by omega)).2
    have h5 := (least_spec (sumP D ws) D.length (by omega)).1 k hk
    have h6 := key j hj
    unfold leastS
    omega
  unfold hasI
  rw [List.any_eq_true]
  refine ⟨(k : Int), ?_, by simp⟩
  unfold medsV
  rw [if_pos hW]
  exact selN_mem _ _ k hk (decide_eq_true hmin)
theorem selN_full (p : Nat → Bool) : ∀ n : Nat, (∀ k, k < n → p k = true) → (selN p n).length = n
  | 0, _ => rfl
  | n + 1, h => by
    rw [selN_succ, if_pos (h n (by omega)), List.length_append, selN_full p n fun k hk => h k (by omega)]
    rfl
theorem zero_medians {D : List (List Int)} (hs : spB D = true) : (medsV D (List.replicate D.length 0)).length = D.length := by
  obtain ⟨n1, n6⟩ := spB_len hs
  have h0 : ∀ i : Nat, ix (List.replicate D.length (0 : Int)) i = 0 := fun i => by
    unfold ix
    by_cases h : i < D.length
    · simp [List.getD, h]
    · simp [List.getD, List.getElem?_eq_none (show (List.replicate D.length (0 : Int)).length ≤ i by simp; omega)]
  have hW : weightsB D (List.replicate D.length 0) = true := by
    unfold weightsB wtB
    rw [(allR_all _ _).2 fun i hi => by rw [h0]; rfl, hs, decide_eq_true (by simp)]
    rfl
  have hz : ∀ p, sumP D (List.replicate D.length 0) p = 0 := fun p => by
    rw [sumP_sm, sm_congr (g := fun _ => 0) _ fun k _ => by rw [h0]; simp, sm_const]
    simp
  unfold medsV
  rw [if_pos hW]
  refine selN_full _ _ fun k hk => decide_eq_true ?_
  obtain ⟨j, hj, e⟩ := (least_spec (sumP D (List.replicate D.length 0)) D.length (by omega)).2
  unfold leastS
  rw [e, hz, hz]
end Go.Proofs.Ytpfbnaachibbfab
