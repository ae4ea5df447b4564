/- What is proved: how a text of bytes that comes in is opened, and the reader that l20Open lays over it. No condition. -/
import Derived.Test.YtbkefojepelggaaObj
import Derived.Test.YtbkefojepelggaaFrame
namespace Go.Proofs.Ytbkefojepelggaa
open Go.RowKit Go.ChangeShapes Go.WideShapes Go.ChangeAt Go.Deep
theorem cellsU : Try.prog.cellsOf 5 = 1 := by kernel_rfl
/-- n bytes at A -/
def Byt (w : World) (A : Option Addr) (n c : Nat) : Prop :=
  n ≤ c ∧ c ≤ maxLen ∧ ∃ b o, (0 < n → A = some ⟨b, o, none⟩) ∧ ∀ k, k < n → ∃ x : Int, w.cell? ⟨b, o + k, none⟩ = some (.int .u8 x) ∧ 0 ≤ x ∧ x ≤ 255
theorem Byt.ext {w w' : World} {A : Option Addr} {n c : Nat} (h : Byt w A n c) (k : Ext w w') : Byt w' A n c := by
  obtain ⟨h1, h2, b, o, hA, hc⟩ := h
  refine ⟨h1, h2, b, o, hA, fun j hj => ?_⟩
  obtain ⟨x, e, h0, h1⟩ := hc j hj
  exact ⟨x, k.cell e, h0, h1⟩
section
variable {H : Type} {enc : TypeId × Value → H} {W : World} {base : Nat}
set_option maxRecDepth 100000 in
/-- AN ARGUMENT that is a slice of bytes -/
theorem read_bytes {r : Reach} {b0 : Nat} {v : Value} {d : DataW H} {ps : List MemPlace} (hval : Value.okWide Try.prog W r b0 22 v) (h : DataW.Trod enc Try.prog W base (fun _ => true) true 22 v d ps) :
    ∃ A n c, v = .slice A n c ∧ Byt W A n c := by
  obtain ⟨a0, len, cap, rfl⟩ := okWide_slice Try.underlying22 hval
  obtain ⟨fuel, hf⟩ := h
  rcases open_ints Try.underlying22 Try.underlying5 cellsU hf with ⟨hcs, _⟩ | ⟨a, len', cap', zs, hcs, hb, hl, hm, hz, hy, hcell, hwz⟩
  · simp [Value.cells] at hcs
    obtain ⟨rfl, rfl, rfl⟩ := hcs
    exact ⟨none, 0, 0, rfl, Nat.le_refl _, Nat.zero_le _, 0, 0, fun h => absurd h (by omega), fun j hj => absurd hj (by omega)⟩
  · simp [Value.cells] at hcs
    obtain ⟨rfl, rfl, rfl⟩ := hcs
    simp only [if_true] at hz
    refine ⟨some a, len, cap, rfl, hl, hm, ?_⟩
    by_cases hL : len = 0
    · exact ⟨0, 0, fun h => absurd h (by omega), fun j hj => absurd hj (by omega)⟩
    · obtain ⟨b, o, s⟩ := a
      have h0 := hcell 0 (by omega)
      have hs : s = none := by simpa [Addr.add] using World.cell?_spot h0
      subst hs
      refine ⟨b, o, fun _ => rfl, fun j hj => ?_⟩
      have hc := hcell j (by omega)
      rw [add_plain] at hc
      have hlt : j < zs.length := by omega
      obtain ⟨k0, k1⟩ := bounds_u8 (hwz zs[j] (List.getElem_mem hlt))
      exact ⟨zs[j], by rw [hc]; simp [List.getD, hlt], k0, k1⟩
end
set_option maxHeartbeats 1000000 in
theorem open_any (A : Option Addr) (n c : Nat) (w : World) (h : Byt w A n c) :
    Calls Try.prog 35 #[.slice A n c] w fun e w' => ∃ g, e = .returned (.pointer (some ⟨g, 0, none⟩)) ∧ Ext w w' ∧ w.heap.size ≤ g ∧ RdU w' w'.heap.size g 0 := by
  obtain ⟨h1, h2, b, o, hA, hc⟩ := h
  have hm := h2
  unfold maxLen at hm
  have key : ∀ k : Nat, k ≤ 2000 → k ≤ n → ∃ g, w.heap.size ≤ g ∧ g = w.heap.size ∧ RdU (w.alloc (.cells #[.slice A k c, .int .i64 0] 82)) (w.alloc (.cells #[.slice A k c, .int .i64 0] 82)).heap.size w.heap.size 0 := fun k hk hkn => by
    have hlt : 0 < k → b < w.heap.size := fun h0 => by
      obtain ⟨x, e, _⟩ := hc 0 (by omega)
      exact World.block_lt_of_cell? w _ e
    refine ⟨w.heap.size, Nat.le_refl _, rfl, 0, Int.le_refl _, A, k, c, b, o, fun h0 => hA (by omega), hk, by omega, h2, heap_alloc_new w _, ⟨fun h0 => ⟨by have := hlt h0; omega, by have := hlt h0; simp; omega⟩, by simp⟩, Int.le_refl _, by omega, fun j hj => ?_⟩
    obtain ⟨x, e, h0, h1⟩ := hc j (by omega)
    exact ⟨x, (Ext.alloc w _).cell e, h0, h1⟩
  have HK := Lib.hid key
  clear key hc hA
  by_cases hn : 2000 < n
  · have hn' : (2000 : Int) < (n : Nat) := by omega
    obtain ⟨g, hg, rfl, hR⟩ := HK.out 2000 (by omega) (by omega)
    have HR := Lib.hid hR
    clear hR HK
    go_enter Try.func35, Try.ntmps35
    go_wp2
    go_ret
    exact ⟨_, rfl, Ext.alloc _ _, Nat.le_refl _, HR.out⟩
  · have hn' : ¬ (2000 : Int) < (n : Nat) := by omega
    obtain ⟨g, hg, rfl, hR⟩ := HK.out n (by omega) (by omega)
    have HR := Lib.hid hR
    clear hR HK
    go_enter Try.func35, Try.ntmps35
    go_wp2
    go_ret
    exact ⟨_, rfl, Ext.alloc _ _, Nat.le_refl _, HR.out⟩
end Go.Proofs.Ytbkefojepelggaa
