/- What is proved: the reader of a code: pick returns a number in its range and moves the reader's own block alone. Conditions: those of each contract. -/
import Derived.Test.YtbkefojepelggaaAppM
namespace Go.Proofs.Ytbkefojepelggaa
open Go.RowKit

/-- a reader at the block g, p bytes on; its block and its bytes lie below B -/
def Rd (w : World) (B g : Nat) (p : Int) : Prop :=
  ∃ (Ab : Option Addr) (n cb bk o : Nat), (0 < n → Ab = some ⟨bk, o, none⟩) ∧ n ≤ 2000 ∧ n ≤ cb ∧ cb ≤ maxLen ∧ w.heap[g]? = some (.cells #[.slice Ab n cb, .int .i64 p] 82 (0, 0)) ∧ ((0 < n → bk ≠ g ∧ bk < B) ∧ g < B) ∧ 0 ≤ p ∧ p ≤ 1000000 ∧
    ∀ k, k < n → ∃ x : Int, w.cell? ⟨bk, o + k, none⟩ = some (.int .u8 x) ∧ 0 ≤ x ∧ x ≤ 255

theorem cell_of_heap {w w' : World} {b o : Nat} (h : w'.heap[b]? = w.heap[b]?) : w'.cell? ⟨b, o, none⟩ = w.cell? ⟨b, o, none⟩ := by
  simp [World.cell?, h]
theorem rd_heap {w : World} {g : Nat} {a b u : Value} {T : TypeId} (hb : w.heap[g]? = some (.cells #[a, b] T (0, 0))) : (w.setCell ⟨g, 1, none⟩ u).heap[g]? = some (.cells #[a, u] T (0, 0)) := by
  simp [World.setCell, Array.getElem?_modify, hb]
theorem Rd.drewN {w : World} {B g : Nat} {p : Int} (h : Rd w B g p) (m : Nat) : Rd (w.drewN m) B g p := h
theorem Rd.keep {w w' : World} {B g : Nat} {p : Int} (h : Rd w B g p) (k : ∀ b, b < B → w'.heap[b]? = w.heap[b]?) : Rd w' B g p := by
  obtain ⟨Ab, n, cb, bk, o, hA, hn, hcb, hmx, hb, hne, hp0, hp1, hx⟩ := h
  refine ⟨Ab, n, cb, bk, o, hA, hn, hcb, hmx, (k g hne.2).trans hb, hne, hp0, hp1, fun j hj => ?_⟩
  obtain ⟨x, hc, h0, h1⟩ := hx j hj
  exact ⟨x, (cell_of_heap (k bk (hne.1 (by omega)).2)).trans hc, h0, h1⟩
theorem Rd.lt {w : World} {B g : Nat} {p : Int} (h : Rd w B g p) : g < B := by
  obtain ⟨_, _, _, _, _, _, _, _, _, _, hne, _⟩ := h
  exact hne.2

theorem xor_bd {a b : Int} (a0 : 0 ≤ a) (a1 : a < 1099511627776) (b0 : 0 ≤ b) (b1 : b < 1099511627776) : 0 ≤ bits .xor .i64 a b ∧ bits .xor .i64 a b < 1099511627776 := by
  obtain ⟨A, rfl⟩ : ∃ A : Nat, a = A := ⟨a.toNat, by omega⟩
  obtain ⟨B, rfl⟩ : ∃ B : Nat, b = B := ⟨b.toNat, by omega⟩
  have hA : (BitVec.ofInt 64 ((A : Nat) : Int)).toNat = A := by
    rw [BitVec.ofInt_natCast, BitVec.toNat_ofNat]; exact Nat.mod_eq_of_lt (by omega)
  have hB : (BitVec.ofInt 64 ((B : Nat) : Int)).toNat = B := by
    rw [BitVec.ofInt_natCast, BitVec.toNat_ofNat]; exact Nat.mod_eq_of_lt (by omega)
  have h : A ^^^ B < 2 ^ 40 := Nat.xor_lt_two_pow (by omega) (by omega)
  have e : bits .xor .i64 ((A : Nat) : Int) ((B : Nat) : Int) = ((A ^^^ B : Nat) : Int) := by
    show IntKind.i64.wrap ((BitVec.ofInt 64 ((A : Nat) : Int) ^^^ BitVec.ofInt 64 ((B : Nat) : Int)).toNat : Int) = _
    rw [BitVec.toNat_xor, hA, hB, IntKind.wrap_i64]
    omega
  rw [e]
  omega

set_option maxRecDepth 100000 in
set_option maxHeartbeats 4000000 in
theorem pick_any (B g : Nat) (p m : Int) (w : World) (h : Rd w B g p) (hp : p < 1000000) (hm : m ≤ 1000) (hm0 : -1000 ≤ m) :
    Calls Try.prog 64 #[.pointer (some ⟨g, 0, none⟩), .int .i64 m] w fun e w' => ∃ v : Int, e = .returned (.int .i64 v) ∧ 0 ≤ v ∧ (v < m ∨ v = 0) ∧ Rd w' B g (p + 1) ∧ Only (fun k => k = g) w w' := by
  obtain ⟨Ab, n, cb, bk, o, hA, hn, hcb, hmx, hb, hne, hp0, hp1, hx⟩ := h
  unfold maxLen at hmx
  have c0 := cell_cells hb 0
  have c1 := cell_cells hb 1
  have f1 := frozen_cells hb 1
  simp only [List.getElem?_toArray, List.getElem?_cons_zero, List.getElem?_cons_succ] at c0 c1
  have hb2 := rd_heap (u := .int .i64 (p + 1)) hb
  have hoth : ∀ k, k ≠ g → (w.setCell ⟨g, 1, none⟩ (.int .i64 (p + 1))).heap[k]? = w.heap[k]? := fun k hk => Below.heap_setCell _ _ _ _ hk
  have d0 := cell_cells hb2 0
  have d1 := cell_cells hb2 1
  simp only [List.getElem?_toArray, List.getElem?_cons_zero, List.getElem?_cons_succ] at d0 d1
  have hx2 : ∀ k, k < n → ∃ x : Int, (w.setCell ⟨g, 1, none⟩ (.int .i64 (p + 1))).cell? ⟨bk, o + k, none⟩ = some (.int .u8 x) ∧ 0 ≤ x ∧ x ≤ 255 := fun k hk => by
    rw [cell_of_heap (hoth bk (hne.1 (by omega)).1)]; exact hx k hk
  have HO := Lib.hid (show Only (fun k => k = g) w (w.setCell ⟨g, 1, none⟩ (.int .i64 (p + 1))) from Only.set (S := fun k => k = g) w (p := ⟨g, 1, none⟩) rfl _)
  have HX := Lib.hid hx2
  have HR := Lib.hid (show Rd (w.setCell ⟨g, 1, none⟩ (.int .i64 (p + 1))) B g (p + 1) from ⟨Ab, n, cb, bk, o, hA, hn, hcb, by unfold maxLen; omega, hb2, hne, by omega, by omega, hx2⟩)
  have HA := Lib.hid hA
  clear hx hb hoth hx2 hb2 hA hne
  by_cases hm1 : m < 1
  · go_enter Try.func64, Try.ntmps64
    go_wp2
    go_ret
    exact ⟨0, rfl, Int.le_refl _, .inr rfl, HR.out, HO.out⟩
  by_cases hn0 : n = 0
  · subst hn0
    go_enter Try.func64, Try.ntmps64
    go_wp2
    go_ret
    exact ⟨0, rfl, Int.le_refl _, .inr rfl, HR.out, HO.out⟩
  obtain rfl := HA.out (by omega)
  have hnp : 0 < n := by omega
  have hn0' : ¬ ((n : Int) = 0) := by omega
  have hd : ((n : Int) == 0) = false := beq_eq_false_iff_ne.2 hn0'
  have hd2 : decide (m < 1) = false := decide_eq_false hm1
  clear hn0
  by_cases hpn : p < n
  · obtain ⟨x, hc, x0, x1⟩ := HX.out p.toNat (by omega)
    have HE := Lib.hid (show x.tmod m = x % m ∧ 0 ≤ x % m ∧ x % m < m from ⟨Int.tmod_eq_emod_of_nonneg x0, Int.emod_nonneg _ (by omega), Int.emod_lt_of_pos _ (by omega)⟩)
    go_enter Try.func64, Try.ntmps64
    go_wp2
    go_ret
    exact ⟨x % m, rfl, HE.out.2.1, .inl HE.out.2.2, HR.out, HO.out⟩
  · obtain ⟨q0, q1⟩ : 0 ≤ p % n ∧ p % n < n := ⟨Int.emod_nonneg _ hn0', Int.emod_lt_of_pos _ (by omega)⟩
    obtain ⟨r0, r1⟩ : 0 ≤ (p * 7 + 3) % n ∧ (p * 7 + 3) % n < n := ⟨Int.emod_nonneg _ hn0', Int.emod_lt_of_pos _ (by omega)⟩
    obtain ⟨x, hc, x0, x1⟩ := HX.out (p % n).toNat (by omega)
    obtain ⟨y, hy, y0, y1⟩ := HX.out ((p * 7 + 3) % n).toNat (by omega)
    obtain ⟨z0, z1⟩ : 0 ≤ p / n ∧ p / n ≤ 1000000 := ⟨Int.ediv_nonneg hp0 (by omega), by have := Int.ediv_le_self (n : Int) hp0; omega⟩
    go_enter Try.func64, Try.ntmps64
    go_wp2
    go_quiet (fail)
    obtain ⟨X, hX⟩ : ∃ X, x * 131 + y * 1117 + p * 29 + p / n * 53 = X := ⟨_, rfl⟩
    have X0 : 0 ≤ X ∧ X ≤ 1000000000 := by omega
    obtain ⟨V0, V1⟩ := xor_bd (a := X) (b := X / 64) (by omega) (by omega) (by omega) (by omega)
    obtain ⟨V, hV⟩ : ∃ V, bits .xor .i64 X (X / 64) = V := ⟨_, rfl⟩
    rw [hV] at V0 V1
    have HE := Lib.hid (show 0 ≤ V % m ∧ V % m < m from ⟨Int.emod_nonneg _ (by omega), Int.emod_lt_of_pos _ (by omega)⟩)
    rw [hX]
    obtain ⟨X2, X3⟩ := X0
    clear hX hc hy x0 x1 y0 y1 z0 z1 q0 q1 r0 r1
    go_wp2
    go_ret
    exact ⟨V % m, rfl, HE.out.1, .inl HE.out.2, HR.out.drewN _, HO.out⟩
end Go.Proofs.Ytbkefojepelggaa
