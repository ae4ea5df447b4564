/- What is proved: how a desk that comes in is opened: its space, and its list of spaces of before. No condition. -/
import Derived.Test.YtbkefojepelggaaAppM
import Derived.Test.YtbkefojepelggaaFrame
namespace Go.Proofs.Ytbkefojepelggaa
open Go.RowKit Go.ChangeShapes Go.WideShapes Go.ChangeAt Go.Deep
theorem cellsM : Try.prog.cellsOf 23 = 1 := by kernel_rfl
theorem infoM : (Try.prog.info? 23).map (fun i => (i.zero, i.size, i.bytes)) = some (some (.slice none 0 0), 1, 24) := by kernel_rfl
def nth (L : List (List (List Int))) (i : Nat) : List (List Int) := L.getD i []
theorem nth_of {L : List (List (List Int))} {i : Nat} (h : i < L.length) : nth L i = L[i] := by simp [nth, h]
theorem ext_nth {L M : List (List (List Int))} (h : L.length = M.length) (hx : ∀ i, i < L.length → nth L i = nth M i) : L = M :=
  List.ext_getElem h fun i h1 h2 => by rw [← nth_of h1, ← nth_of h2]; exact hx i h1
/-- a slice of slices of rows -/
def MatS (w : World) (A : Option Addr) (c : Nat) (L : List (List (List Int))) : Prop :=
  L.length ≤ c ∧ c ≤ maxLen ∧ ∃ b o, (0 < L.length → A = some ⟨b, o, none⟩) ∧ ∀ i, i < L.length → ∃ Ar cr, w.cell? ⟨b, o + i, none⟩ = some (.slice Ar (nth L i).length cr) ∧ Mat w Ar cr (nth L i)
theorem MatS.ext {w w' : World} {A : Option Addr} {c : Nat} {L : List (List (List Int))} (h : MatS w A c L) (k : Ext w w') : MatS w' A c L := by
  obtain ⟨h1, h2, b, o, hA, hc⟩ := h
  refine ⟨h1, h2, b, o, hA, fun i hi => ?_⟩
  obtain ⟨Ar, cr, e, hr⟩ := hc i hi
  exact ⟨Ar, cr, k.cell e, hr.ext k⟩
theorem MatS.nil (w : World) (A : Option Addr) (c : Nat) (hc : c ≤ maxLen) : MatS w A c [] := ⟨Nat.zero_le _, hc, 0, 0, fun h => absurd h (by simp), fun j hj => absurd hj (by simp)⟩
theorem MatS.parts {w : World} {A : Option Addr} {c : Nat} {L : List (List (List Int))} (h : MatS w A c L) :
    ∃ (b o : Nat) (R : Nat → Option Addr) (rc : Nat → Nat), (0 < L.length → A = some ⟨b, o, none⟩) ∧
      (∀ i, i < L.length → w.cell? ⟨b, o + i, none⟩ = some (.slice (R i) (nth L i).length (rc i))) ∧ (∀ i, i < L.length → (nth L i).length ≤ rc i ∧ rc i ≤ maxLen) ∧ (∀ i, i < L.length → Mat w (R i) (rc i) (nth L i)) := by
  obtain ⟨_, _, b, o, hA, hc⟩ := h
  have h' : ∀ i, i < L.length → ∃ x : Option Addr × Nat, w.cell? ⟨b, o + i, none⟩ = some (.slice x.1 (nth L i).length x.2) ∧ Mat w x.1 x.2 (nth L i) := by
    intro i hi
    obtain ⟨Ar, cr, e, hr⟩ := hc i hi
    exact ⟨(Ar, cr), e, hr⟩
  obtain ⟨f, hf⟩ := pick h'
  exact ⟨b, o, fun i => (f i).1, fun i => (f i).2, hA, fun i hi => (hf i hi).1, fun i hi => ⟨(hf i hi).2.1, (hf i hi).2.2.1⟩, fun i hi => (hf i hi).2⟩

section
variable {H : Type} {enc : TypeId × Value → H} {W : World} {base : Nat}
set_option maxRecDepth 100000 in
theorem mat_of_trod {fuel : Nat} {cs : List Value} {x : DataW H × List MemPlace} (hf : DataW.trod enc Try.prog W base (fun _ => true) true fuel 23 cs = some x) : ∃ A c D, cs = [.slice A (List.length D) c] ∧ Mat W A c D := by
  rcases open_int_rows Try.underlying23 Try.underlying31 Try.underlying3 cellsR cellsI hf with ⟨hcs, _⟩ | ⟨a, len', cap', A, L, C, Z, hcs, _, hl, hm, _, hrows⟩
  · exact ⟨none, 0, [], hcs, Mat.nil _ _ _ (Nat.zero_le _)⟩
  · have hD : ((List.range len').map fun i => (Z i).take (L i)).length = len' := by simp
    refine ⟨some a, cap', (List.range len').map fun i => (Z i).take (L i), by rw [hD]; exact hcs, by rw [hD]; exact hl, hm, ?_⟩
    by_cases h0 : len' = 0
    · exact ⟨0, 0, fun h => absurd h (by rw [hD]; omega), fun j hj => absurd hj (by rw [hD]; omega)⟩
    · obtain ⟨b, o, s⟩ := a
      have hs : s = none := by simpa [Addr.add] using World.cell?_spot (hrows 0 (by omega)).1
      subst hs
      refine ⟨b, o, fun _ => rfl, fun i hi => ?_⟩
      rw [hD] at hi
      obtain ⟨k1, k2, k3, k4, k5, k6, k7⟩ := hrows i (by omega)
      have hrow : row ((List.range len').map fun i => (Z i).take (L i)) i = (Z i).take (L i) := by
        rw [row_of (by rw [hD]; exact hi)]; simp
      obtain ⟨e, hI⟩ := ints_of_cells (w := W) k2 k3 k4 k6 (fun a' ha c hc => (k7 a' ha).2 c hc)
      rw [add_plain] at k1
      rw [hrow]
      exact ⟨A i, C i, by rw [k1, e], hI⟩
set_option maxRecDepth 100000 in
theorem mats_of_trod {fuel : Nat} {cs : List Value} {x : DataW H × List MemPlace} (hf : DataW.trod enc Try.prog W base (fun _ => true) true fuel 24 cs = some x) : ∃ A c L, cs = [.slice A (List.length L) c] ∧ MatS W A c L := by
  rcases open_slice1 Try.underlying24 cellsM hf with ⟨hcs, _⟩ | ⟨a, len, cap, m, n, V, D, Pl, rfl, hb, hl, hm, hmm, rfl, hx⟩
  · exact ⟨none, 0, [], hcs, MatS.nil _ _ _ (Nat.zero_le _)⟩
  · simp only [if_true] at hmm
    have each : ∀ r, r < len → ∃ y : List (List Int) × Option Addr × Nat, V r = .slice y.2.1 y.1.length y.2.2 ∧ Mat W y.2.1 y.2.2 y.1 := fun r hr => by
      obtain ⟨A, c, D, e, hM⟩ := mat_of_trod (hx r (by omega)).2
      exact ⟨(D, A, c), by simpa using e, hM⟩
    obtain ⟨y, hy⟩ := pick each
    have hD : ((List.range len).map fun i => (y i).1).length = len := by simp
    refine ⟨some a, cap, (List.range len).map fun i => (y i).1, by rw [hD], by rw [hD]; exact hl, hm, ?_⟩
    by_cases h0 : len = 0
    · exact ⟨0, 0, fun h => absurd h (by rw [hD]; omega), fun j hj => absurd hj (by rw [hD]; omega)⟩
    · obtain ⟨b, o, s⟩ := a
      have hs : s = none := by simpa [Addr.add] using World.cell?_spot (hx 0 (by omega)).1
      subst hs
      refine ⟨b, o, fun _ => rfl, fun i hi => ?_⟩
      rw [hD] at hi
      have k1 := (hx i (by omega)).1
      rw [add_plain] at k1
      have hrow : nth ((List.range len).map fun i => (y i).1) i = (y i).1 := by
        rw [nth_of (by rw [hD]; exact hi)]; simp
      rw [hrow]
      exact ⟨(y i).2.1, (y i).2.2, by rw [k1, (hy i hi).1], (hy i hi).2⟩
set_option maxRecDepth 100000 in
/-- AN ARGUMENT that is a desk -/
theorem read_desk {r : Reach} {b0 : Nat} {v : Value} {d : DataW H} {ps : List MemPlace} (hval : Value.okWide Try.prog W r b0 45 v) (h : DataW.Trod enc Try.prog W base (fun _ => true) true 45 v d ps) :
    ∃ A c D B e L, v = .agg #[.slice A (List.length D) c, .slice B (List.length L) e] ∧ Mat W A c D ∧ MatS W B e L := by
  obtain ⟨cs, rfl, hsz⟩ := okWide_struct Try.underlying45 hval
  obtain ⟨fuel, hf⟩ := h
  obtain ⟨y0, y1, n, -, hl, h0, h1⟩ := trod_struct2 Try.underlying45 hf
  have hc : Try.prog.cellsOf 45 = 2 := by kernel_rfl
  rw [hc] at hsz hl
  match cs, hsz with
  | ⟨[x, y]⟩, _ =>
    simp only [cellsM, show Try.prog.cellsOf 24 = 1 by kernel_rfl] at h0 h1
    obtain ⟨A, c, D, e0, hM⟩ := mat_of_trod h0
    obtain ⟨B, e, L, e1, hS⟩ := mats_of_trod h1
    simp [Value.cells] at e0 e1
    exact ⟨A, c, D, B, e, L, by rw [e0, e1], hM, hS⟩
end
end Go.Proofs.Ytbkefojepelggaa
