/- What is proved: plain laws of lots: exchange, a lot and itself, the first point alone. No condition. -/
import Derived.Test.YtjaigidlpfdfiaaFit
import Derived.Test.YtjaigidlpfdfiaaPl0
namespace Go.Proofs.Ytjaigidlpfdfiaa
open Go.RowKit
theorem fit_sym_table : ∀ n : Fin 7, ∀ a : Fin 32, ∀ b : Fin 32, fitN n.val (a.val : Int) (b.val : Int) = fitN n.val (b.val : Int) (a.val : Int) := by decide +kernel
theorem fit_self_table : ∀ n : Fin 7, ∀ a : Fin 32, fitN n.val (a.val : Int) (a.val : Int) = true ∧ fitN n.val (a.val : Int) 1 = true := by decide +kernel
theorem fitN_sym {n : Nat} {a b : Int} (hn : n ≤ 6) (h1 : 1 ≤ a) (h2 : a ≤ 31) (h3 : 1 ≤ b) (h4 : b ≤ 31) : fitN n a b = fitN n b a := by
  have := fit_sym_table ⟨n, by omega⟩ ⟨a.toNat, by omega⟩ ⟨b.toNat, by omega⟩
  simp only [Int.toNat_of_nonneg (show 0 ≤ a by omega), Int.toNat_of_nonneg (show 0 ≤ b by omega)] at this
  exact this
theorem fitB_sym (D : List (List Int)) (a b : Int) : fitB D a b = fitB D b a := by
  unfold fitB
  cases ha : splitB D a with
  | false => simp
  | true =>
    cases hb : splitB D b with
    | false => simp
    | true =>
      obtain ⟨_, _, n6, a1, _, a2⟩ := splitB_parts ha
      obtain ⟨_, _, _, b1, _, b2⟩ := splitB_parts hb
      rw [fitN_sym n6 a1 a2 b1 b2]
theorem fitB_self {D : List (List Int)} {a : Int} (h : splitB D a = true) : fitB D a a = true ∧ fitB D a 1 = true := by
  obtain ⟨hs, n2, n6, a1, _, a2⟩ := splitB_parts h
  have := fit_self_table ⟨D.length, by omega⟩ ⟨a.toNat, by omega⟩
  simp only [Int.toNat_of_nonneg (show 0 ≤ a by omega)] at this
  have h1 : splitB D 1 = true := by rw [splitB_one, hs, decide_eq_true (by omega)]; rfl
  unfold fitB
  rw [h, h1, this.1, this.2]
  exact ⟨rfl, rfl⟩
end Go.Proofs.Ytjaigidlpfdfiaa
