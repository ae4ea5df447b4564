/- What is proved: l20Spoil changes a text that was drawn. Conditions: those of the contract. -/
import Derived.Test.YtcejdgnfmcgopaaGreatDoorPi
import Derived.Test.YtcejdgnfmcgopaaGreatDoorPc
import Derived.Deep.RegionLaw
namespace Go.Proofs.YtcejdgnfmcgopaaGreatDoor
open Go.RowKit
/-- a text drawn, of at most m bytes -/
def DrawnTx (w : World) (B g : Nat) (u : Int) (m : Nat) (e : Ending) (w' : World) : Prop := ∃ L : List UInt8, e = .returned (tx L) ∧ L.length ≤ m ∧ RdU w' B g u ∧ ExtG g w w'
theorem lit_six {v : Int} (h0 : 0 ≤ v) (h6 : v < 6) : ∃ T : List UInt8, (∀ h, ([Value.string ⟨#[]⟩, .string ⟨#[48]⟩, .string ⟨#[32]⟩, .string ⟨#[10]⟩, .string ⟨#[44]⟩, .string ⟨#[98, 97, 99, 107]⟩] : List Value)[v.toNat]'h = .string ⟨T.toArray⟩) ∧ T.length ≤ 4 := by
  have : v = 0 ∨ v = 1 ∨ v = 2 ∨ v = 3 ∨ v = 4 ∨ v = 5 := by omega
  rcases this with rfl | rfl | rfl | rfl | rfl | rfl
  · exact ⟨[], fun _ => rfl, by simp⟩
  · exact ⟨[48], fun _ => rfl, by simp⟩
  · exact ⟨[32], fun _ => rfl, by simp⟩
  · exact ⟨[10], fun _ => rfl, by simp⟩
  · exact ⟨[44], fun _ => rfl, by simp⟩
  · exact ⟨[98, 97, 99, 107], fun _ => rfl, by simp⟩
theorem slice_to {L : List UInt8} {a : Nat} (ha : a ≤ L.length) (W : World) : (Instr.slice 9 (.string ⟨L.toArray⟩) none (some (.int .i64 (a : Int))) none).run Tryz.prog W = .ok (tx (L.take a)) W := by
  rw [run_slice_string_to_if W 9 _ _ _ Tryz.underlying9, if_pos (by rw [tx_size]; omega)]
  unfold tx
  rw [Int.toNat_natCast, ByteArray.extract_mk]
  simp
set_option maxRecDepth 100000 in
set_option maxHeartbeats 4000000 in
theorem l20Spoil_any {w : World} {B g : Nat} {u : Int} (hR : RdU w B g u) (hB : B ≤ w.heap.size) (hu : u ≤ 200000) (L : List UInt8) (hl : L.length ≤ 900) :
    Calls Tryz.prog 75 #[.pointer (some ⟨g, 0, none⟩), .string ⟨L.toArray⟩] w (DrawnTx w B g (u + 2) (L.length + 4)) := by
  have hsz := tx_size L
  have hg := hR.lt
  have HR := Lib.hid hR
  clear hR
  by_cases h0 : L = []
  · subst h0
    go_enter Tryz.func75, Tryz.ntmps75
    go_wp2_with fail
    go_ret
    exact ⟨[10], rfl, by simp, HR.out.le (by omega), ExtG.refl _ _⟩
  · have hp := List.length_pos_iff.2 h0
    have hne : ((L.length : Int) == 0) = false := beq_eq_false_iff_ne.2 (by omega)
    have hne2 : ¬ (L.length : Int) = 0 := by omega
    go_enter Tryz.func75, Tryz.ntmps75
    go_wp2_with fail
    refine (pickU HR.out L.length (by omega) (by omega) (by omega)).mono ?_
    rintro e w1 ⟨kk, rfl, k0, k1, hR1, hO1⟩
    obtain ⟨k, rfl⟩ : ∃ n : Nat, kk = n := ⟨kk.toNat, by omega⟩
    have hk : k < L.length := by omega
    have hsl1 := slice_to (L := L) (a := k) (by omega)
    have hsl2 : ∀ W, (Instr.slice 9 (.string ⟨L.toArray⟩) (some (.int .i64 ((k : Int) + 1))) none none).run Tryz.prog W = .ok (tx (L.drop (k + 1))) W := fun W => by
      have q := slice_end (L := L) (a := k + 1) (by omega) W
      rw [show (((k + 1 : Nat)) : Int) = (k : Int) + 1 by omega] at q
      exact q
    have wk : IntKind.i64.wrap ((k : Int) + 1) = (k : Int) + 1 := IntWalk.i64_in _ ⟨by omega, by omega⟩
    obtain ⟨P, hP⟩ : ∃ x, L.take k = x := ⟨_, rfl⟩
    obtain ⟨Q, hQ⟩ : ∃ x, L.drop (k + 1) = x := ⟨_, rfl⟩
    have hPl : P.length ≤ L.length := by rw [← hP, List.length_take]; omega
    have hQl : P.length + Q.length ≤ L.length := by rw [← hP, ← hQ, List.length_take, List.length_drop]; omega
    rw [hP] at hsl1
    rw [hQ] at hsl2
    unfold tx at hsl1 hsl2
    have hs1 : w1.heap.size = w.heap.size := hO1.2.2.2.1
    have hG1 := hO1.toG
    have HRX := Lib.hid (fun W (q : Ext w1 W) => hR1.ext q (by omega))
    have HG1 := Lib.hid hG1
    have hgs : g < w1.heap.size := by omega
    have hB1 : B ≤ w1.heap.size := by omega
    clear hP hQ hO1 hG1 hR1 HR h0 hs1
    go_wp2_with fail
    go_region_law (go_simp; go_at_call 40; refine (pickU (HRX.out _ (by repeat (first | exact Ext.refl _ | apply Ext.drew' | apply Ext.alloc'))) 6 (by omega) (by omega) (by omega)).mono ?_; rintro e w5 ⟨v5, rfl, a0, a1, hR5, hO5⟩; have l5 : v5 < 6 := (by omega); obtain ⟨T, hT, hT4⟩ := lit_six a0 l5; have x5c : ∀ o, w5.cell? ⟨w1.heap.size, o, none⟩ = _ := (fun o => World.cell?_of_block (hO5.2.2.2.2 _ (by show w1.heap.size ≠ g; omega))); obtain ⟨PT, hPT⟩ : ∃ x, P ++ T = x := ⟨_, rfl⟩; obtain ⟨PTQ, hPTQ⟩ : ∃ x, PT ++ Q = x := ⟨_, rfl⟩; have e1 : ((⟨P.toArray⟩ : ByteArray) ++ ⟨T.toArray⟩) = ⟨PT.toArray⟩ := (by rw [← hPT]; exact tx_add P T); have e2 : ((⟨PT.toArray⟩ : ByteArray) ++ ⟨Q.toArray⟩) = ⟨PTQ.toArray⟩ := (by rw [← hPTQ]; exact tx_add PT Q); have hl1 : PT.length = P.length + T.length := (by rw [← hPT, List.length_append]); have hl2 : PTQ.length = PT.length + Q.length := (by rw [← hPTQ, List.length_append]); have b1 : ¬ 9223372036854775807 < P.length + T.length := (by omega); have b2 : ¬ 9223372036854775807 < PT.length + Q.length := (by omega); have HLL := Lib.hid (show PTQ.length ≤ L.length + 4 by omega); have hs5 : B ≤ w5.heap.size := (by rw [hO5.2.2.2.1]; exact Nat.le_trans hB1 (Ext.size (by repeat (first | exact Ext.refl _ | apply Ext.drew' | apply Ext.alloc')))); have HR5 := Lib.hid hR5; have HO5 := Lib.hid hO5; clear hl1 hl2 hPT hPTQ hR5 hO5)
    all_goals
      go_wp2
      go_ret
      exact ⟨PTQ, rfl, HLL.out, (HR5.out.ext (by repeat (first | exact Ext.refl _ | apply Ext.drew' | apply Ext.alloc')) hs5).le (by omega), ((HG1.out.on (by repeat (first | exact Ext.refl _ | apply Ext.drew' | apply Ext.alloc'))).rd HO5.out).on (by repeat (first | exact Ext.refl _ | apply Ext.drew' | apply Ext.alloc'))⟩
end Go.Proofs.YtcejdgnfmcgopaaGreatDoor
