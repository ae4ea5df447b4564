/- What is proved: l20Spoil changes a text that was drawn. Conditions: those of the contract. -/
import Derived.Test.YtnalcgcdohlfiaaGreatDoorPi
import Derived.Test.YtnalcgcdohlfiaaGreatDoorPc
import Derived.Deep.RegionLaw
namespace Go.Proofs.YtnalcgcdohlfiaaGreatDoor
open Go.RowKit
/-- a text drawn, of at most m bytes -/
def DrawnTx (w : World) (B g : Nat) (u : Int) (m : Nat) (e : Ending) (w' : World) : Prop := ∃ L : List UInt8, e = .returned (tx L) ∧ L.length ≤ m ∧ RdU w' B g u ∧ ExtG g w w'
theorem lit_six {v : Int} (h0 : 0 ≤ v) (h6 : v < 6) : ∃ T : List UInt8, (∀ h, ([Value.string ⟨#[]⟩, .string ⟨#[48]⟩, .string ⟨#[32]⟩, .string ⟨#[10]⟩, .string ⟨#[44]⟩, .string ⟨#[98, 97, 99, 107]⟩] : List Value)[v.toNat]'h = .string ⟨T.toArray⟩) ∧ T.length ≤ 4 := by
  have : v = 0 ∨ v = 1 ∨ v = 2 ∨ v = 3 ∨ v = 4 ∨ v = 5 := by omega
  rcases this with rfl | rfl | rfl | rfl | rfl | rfl
  · exact ⟨[], fun _ => rfl, by simp⟩
  · exact ⟨[48], fun _ => rfl, by simp⟩
  · exact ⟨[32], fun _ => rfl, by simp⟩
  · exact ⟨[10], fun _ => rfl, by simp⟩
  · exact ⟨[44], fun _ => rfl, by simp⟩
  · exact ⟨[98, 97, 99, 107], fun _ => rfl, by simp⟩
theorem slice_to {L : List UInt8} {a : Nat} (ha : a ≤ L.length) (W : World) : (Instr.slice 9 (.string ⟨L.toArray⟩) none (some (.int .i64 (a : Int))) none).run Tryz.prog W = .ok (tx (L.take a)) W := by
  rw [run_slice_string_to_if W 9 _ _ _ Tryz.underlying9, if_pos (by rw [tx_size]; omega)]
  unfold tx
  rw [Int.toNat_natCast, ByteArray.extract_mk]
  simp
end Go.Proofs.YtnalcgcdohlfiaaGreatDoor
