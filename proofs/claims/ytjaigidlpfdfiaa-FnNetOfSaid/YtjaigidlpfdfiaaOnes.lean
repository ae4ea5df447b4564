/- What is proved: how many points a set has: math/bits.OnesCount, spec.l8Many, laws.bitsOf. Conditions: those of each contract. -/
import Derived.Test.YtjaigidlpfdfiaaIsoS
namespace Go.Proofs.Ytjaigidlpfdfiaa
open Go.RowKit
/-- how many points a set of at most six points has -/
def popI (x : Int) : Int := bitI x 0 + bitI x 1 + bitI x 2 + bitI x 3 + bitI x 4 + bitI x 5
theorem pop_half : ∀ k : Fin 64, popI (k.val : Int) = ((k.val % 2 : Nat) : Int) + popI ((k.val / 2 : Nat) : Int) ∧ 0 ≤ popI (k.val : Int) ∧ popI (k.val : Int) ≤ 6 := by decide +kernel
theorem pop_bd {x : Int} (h0 : 0 ≤ x) (h1 : x < 64) : 0 ≤ popI x ∧ popI x ≤ 6 := by
  have := (pop_half ⟨x.toNat, by omega⟩).2
  simp only [Int.toNat_of_nonneg h0] at this
  exact this
theorem pop_high : ∀ k : Fin 64, bitI (k.val : Int) 6 = 0 ∧ bitI (k.val : Int) 7 = 0 := by decide +kernel
set_option maxRecDepth 100000 in
set_option maxHeartbeats 2000000 in
theorem ones64_any (x : Nat) (hx : x < 64) (w : World) :
    Calls Try.prog 66 #[.int .u64 x] w fun e w' => e = .returned (.int .i64 (popI x)) ∧ w' = w := by
  go_enter Try.func66, Try.ntmps66
  go_wp2
  go_ret
  refine ⟨ret_int ?_, rfl⟩
  clear w
  obtain ⟨y, rfl⟩ : ∃ y : Fin 64, x = y.val := ⟨⟨x, hx⟩, rfl⟩
  clear hx
  revert y
  decide +kernel
set_option maxHeartbeats 1000000 in
theorem ones_any (x : Nat) (hx : x < 64) (w : World) :
    Calls Try.prog 51 #[.int .u64 x] w fun e w' => e = .returned (.int .i64 (popI x)) ∧ w' = w := by
  have H := Lib.hid (fun W => ones64_any x hx W)
  go_enter Try.func51, Try.ntmps51
  go_wp2_with fail
  refine (H.out _).mono ?_
  rintro e w1 ⟨rfl, rfl⟩
  go_wp2
  go_ret
  exact ⟨rfl, rfl⟩
set_option maxRecDepth 100000 in
set_option maxHeartbeats 2000000 in
theorem l8Many_any (x : Nat) (hx : x < 64) (w : World) :
    Calls Try.prog 48 #[.int .i64 x] w fun e w' => e = .returned (.int .i64 (popI x)) ∧ ∃ m, w' = w.drewN m := by
  have HP := Lib.hid pop_half
  go_enter Try.func48, Try.ntmps48
  go_wp2
  go_loopg [4, 3] x (fun g s4 s3 wr => ∃ (m : Nat) (n : Int), s4 = .int .i64 g ∧ s3 = .int .i64 n ∧ wr = w.drewN m ∧ 0 ≤ n ∧ n ≤ 1000 ∧ g < 64 ∧ Hid (n + popI g = popI x))
  case atStart => exact ⟨0, 0, rfl, rfl, rfl, by omega, by omega, hx, Lib.hid (by omega)⟩
  case round =>
    obtain ⟨m, n, rfl, rfl, rfl, n0, n1, hg, HE⟩ := hrel
    by_cases hin : 0 < gk
    · have hin' : (0 : Int) < (gk : Nat) := by omega
      have h1 : ((gk : Int)).tdiv 2 = ((gk / 2 : Nat) : Int) := by rw [Int.tdiv_eq_ediv_of_nonneg (by omega)]; omega
      have h2 : ((gk : Int)).tmod 2 = ((gk % 2 : Nat) : Int) := by rw [Int.tmod_eq_emod_of_nonneg (by omega)]; omega
      have HB := Lib.hid (show n + ((gk % 2 : Nat) : Int) ≤ 1000 ∧ 0 ≤ n + ((gk % 2 : Nat) : Int) by
        have q := HP.out ⟨gk, hg⟩
        have q2 := HP.out ⟨x, hx⟩
        have q3 := HP.out ⟨gk / 2, by omega⟩
        have q4 := HE.out
        simp only at q q2 q3
        omega)
      have HN := Lib.hid (show n + ((gk % 2 : Nat) : Int) + popI ((gk / 2 : Nat) : Int) = popI x by
        have q := HP.out ⟨gk, hg⟩
        have q4 := HE.out
        simp only at q
        omega)
      go_wp2
      go_roundg (gk / 2)
      case measure => omega
      case rel => exact ⟨_, n + ((gk % 2 : Nat) : Int), by go_num, by go_num, by first | rfl | exact drewN_add _ _ _, HB.out.2, HB.out.1, by omega, HN⟩
    · have hin' : ¬ (0 : Int) < (gk : Nat) := by omega
      obtain rfl : gk = 0 := by omega
      go_wp2
      go_ret
      exact ⟨ret_int (by have := HE.out; have z : popI ((0 : Nat) : Int) = 0 := by decide
                         omega), _, by first | rfl | exact drewN_add _ _ _⟩
def popG (x : Int) : Nat → Nat → Int → Int := itR (fun k s => s + bitI x k)
theorem popG_all (x : Nat) (hx : x < 64) : popG x 8 0 0 = popI x := by
  have h := pop_high ⟨x, hx⟩
  simp only at h
  show 0 + bitI x 0 + bitI x 1 + bitI x 2 + bitI x 3 + bitI x 4 + bitI x 5 + bitI x 6 + bitI x 7 = popI x
  unfold popI
  omega
set_option maxRecDepth 100000 in
set_option maxHeartbeats 2000000 in
theorem bitsOf_any (x : Nat) (hx : x < 64) (w : World) :
    Calls Try.prog 29 #[.int .i64 x] w fun e w' => e = .returned (.int .i64 (popI x)) ∧ ∃ m, w' = w.drewN m := by
  have HTM := Lib.hid (fun k => bitI_tmod (x : Int) k (by omega))
  have HA := Lib.hid (popG_all x hx)
  have H01 := Lib.hid (fun k => bitI_01 (x : Int) k)
  go_enter Try.func29, Try.ntmps29
  go_wp2
  go_loopg [4, 3] (8) (fun g s4 s3 wr => ∃ (k m : Nat) (s : Int), k + g = 8 ∧ s4 = .int .i64 k ∧ s3 = .int .i64 s ∧ wr = w.drewN m ∧ 0 ≤ s ∧ s ≤ k ∧ Hid (popG x g k s = popI x))
  case atStart => exact ⟨0, _, _, by omega, rfl, rfl, by first | rfl | exact drewN_0 _ | exact drewN_add _ _ _, by omega, by omega, Lib.hid (HA.out)⟩
  case round =>
    obtain ⟨k, mk, s, hk, rfl, rfl, rfl, hs1, hs2, Hk⟩ := hrel
    by_cases hink : k < 8
    · obtain ⟨gk, rfl⟩ : ∃ g', gk = g' + 1 := ⟨gk - 1, by omega⟩
      have hink' : (k : Int) < (8 : Nat) := by omega
      have B1 := HTM.out k
      have Hst := Lib.hid (show popG x (gk + 1) k s = popG x gk (k + 1) (s + bitI x k) from rfl)
      obtain ⟨b, hb⟩ : ∃ b, bitI (x : Int) k = b := ⟨_, rfl⟩
      have hb01 : 0 ≤ b ∧ b ≤ 1 := by rcases H01.out k with q | q <;> omega
      obtain ⟨hb0, hb1⟩ := hb01
      rw [hb] at B1 Hst
      clear hb
      go_wp2
      go_roundg gk
      case measure => omega
      case rel => exact ⟨k + 1, _, s + b, by omega, by go_num, by first | rfl | go_num, by first | rfl | exact drewN_0 _ | exact drewN_add _ _ _, by omega, by omega, Lib.hid (by rw [← Hk.out, Hst.out])⟩
    · have hink' : ¬ (k : Int) < (8 : Nat) := by omega
      obtain rfl : gk = 0 := by omega
      go_wp2
      go_ret
      exact ⟨ret_int (by rw [← Hk.out]; rfl), _, by first | rfl | exact drewN_add _ _ _⟩
end Go.Proofs.Ytjaigidlpfdfiaa
