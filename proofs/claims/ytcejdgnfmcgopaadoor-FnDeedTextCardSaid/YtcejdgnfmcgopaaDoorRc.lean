/- What is proved: how texts are read: spec.l1Cut, spec.l1Digits. Conditions: those of each contract. -/
import Derived.Test.YtcejdgnfmcgopaaDoorTx
import Derived.Deep.DeepCutAuto
import Derived.Deep.CutBlock
namespace Go.Proofs.YtcejdgnfmcgopaaDoor
open Go.RowKit
/-- what stands between the bytes sep -/
def addHead (p : List UInt8) : List (List UInt8) → List (List UInt8)
  | [] => [p]
  | q :: qs => (p ++ q) :: qs
def pieces (sep : UInt8) : List UInt8 → List (List UInt8)
  | [] => [[]]
  | c :: r => if c = sep then [] :: pieces sep r else addHead [c] (pieces sep r)
theorem addHead_nil {x : List (List UInt8)} (h : x ≠ []) : addHead [] x = x := by
  cases x with
  | nil => exact absurd rfl h
  | cons a l => rfl
theorem addHead_add (p q : List UInt8) (x : List (List UInt8)) : addHead p (addHead q x) = addHead (p ++ q) x := by
  cases x with
  | nil => rfl
  | cons a l => simp [addHead]
theorem pieces_ne (sep : UInt8) (l : List UInt8) : pieces sep l ≠ [] := by
  cases l with
  | nil => exact List.cons_ne_nil _ _
  | cons c r =>
    unfold pieces
    split
    · exact List.cons_ne_nil _ _
    · cases pieces sep r <;> exact List.cons_ne_nil _ _
theorem tx_size (L : List UInt8) : (⟨L.toArray⟩ : ByteArray).size = L.length := by show L.toArray.size = _; simp
theorem index_at {L : List UInt8} {i : Nat} (hi : i < L.length) (W : World) : (Instr.index 9 (.string ⟨L.toArray⟩) (.int .i64 (i : Int))).run Tryd.prog W = .ok (.int .u8 (((L[i]'hi).toNat : Nat) : Int)) W := by
  rw [run_index_string W 9 _ _ _ Tryd.underlying9, dif_pos (by rw [tx_size]; omega)]
  rfl
theorem slice_at {L : List UInt8} {a b : Nat} (ha : a ≤ b) (hb : b ≤ L.length) (W : World) : (Instr.slice 9 (.string ⟨L.toArray⟩) (some (.int .i64 (a : Int))) (some (.int .i64 (b : Int))) none).run Tryd.prog W = .ok (tx ((L.drop a).take (b - a))) W := by
  rw [run_slice_string W 9 _ _ _ _ _ Tryd.underlying9 (by omega) (by omega) (by rw [tx_size]; omega)]
  unfold tx
  rw [← ByteArray.extract_mk]
  simp
theorem slice_end {L : List UInt8} {a : Nat} (ha : a ≤ L.length) (W : World) : (Instr.slice 9 (.string ⟨L.toArray⟩) (some (.int .i64 (a : Int))) none none).run Tryd.prog W = .ok (tx (L.drop a)) W := by
  rw [run_slice_string_from_if W 9 _ _ _ Tryd.underlying9, if_pos (by rw [tx_size]; omega)]
  unfold tx
  rw [tx_size, Int.toNat_natCast, ByteArray.extract_mk, List.take_of_length_le (by simp)]
/-- the byte i -/
def ub (L : List UInt8) (i : Nat) : Nat := (L.getD i 0).toNat
theorem ub_of {L : List UInt8} {i : Nat} (h : i < L.length) : (L[i]'h).toNat = ub L i := by simp [ub, List.getD, h]
def accD (L : List UInt8) : Nat → Int
  | 0 => 0
  | i + 1 => 10 * accD L i + ((ub L i : Int) - 48)
/-- the number of a text of one or two digits -/
def dgt (L : List UInt8) : Int := if (1 ≤ L.length ∧ L.length ≤ 2) ∧ ¬ (1 < L.length ∧ ub L 0 = 48) ∧ (∀ i, i < L.length → 48 ≤ ub L i ∧ ub L i ≤ 57) then accD L L.length else -1
theorem accD_le {L : List UInt8} : ∀ i, i ≤ 2 → (∀ j, j < i → 48 ≤ ub L j ∧ ub L j ≤ 57) → 0 ≤ accD L i ∧ accD L i ≤ 99 ∧ (i ≤ 1 → accD L i ≤ 9) := by
  intro i hi h
  match i, hi with
  | 0, _ => simp [accD]
  | 1, _ => have := h 0 (by omega); simp only [accD]; omega
  | 2, _ => have := h 0 (by omega); have := h 1 (by omega); simp only [accD]; omega
theorem dgt_bd (L : List UInt8) : -1 ≤ dgt L ∧ dgt L ≤ 99 := by
  unfold dgt
  split
  · rename_i h
    have := accD_le (L := L) L.length h.1.2 h.2.2
    omega
  · omega
end Go.Proofs.YtcejdgnfmcgopaaDoor
