/- What is proved: how a deed, and a list of deeds, that come in are opened. No condition. -/
import Derived.Test.YtjpgjmhdjepfgaaDoorFrame
import Derived.Test.YtjpgjmhdjepfgaaDoorDls
namespace Go.Proofs.YtjpgjmhdjepfgaaDoor
open Go.RowKit Go.ChangeShapes Go.WideShapes Go.ChangeAt Go.Deep
section
variable {H : Type} {enc : TypeId × Value → H} {W : World} {base : Nat}
theorem cellsD : Tryd.prog.cellsOf 24 = 2 := by kernel_rfl
set_option maxRecDepth 100000 in
theorem ints_of_trod {fuel : Nat} {cs : List Value} {x : DataW H × List MemPlace} (hf : DataW.trod enc Tryd.prog W base (fun _ => true) true fuel 22 cs = some x) : ∃ A c xs, cs = [.slice A (List.length xs) c] ∧ Ints W A c xs := by
  rcases open_ints Tryd.underlying22 Tryd.underlying3 cellsI hf with ⟨hcs, _⟩ | ⟨a, len', cap', zs, hcs, hb, hl, hm, hz, hy, hcell, hwz⟩
  · exact ⟨none, 0, [], hcs, Ints.nil _ _ _ (Nat.zero_le _)⟩
  · simp only [if_true] at hz
    obtain ⟨e, hI⟩ := ints_of_cells (w := W) (A := some a) (L := len') (C := cap') (zs := zs) hl hm hz (fun h => by cases h) (fun a' ha c hc => by cases ha; exact hcell c (by rw [hz]; exact hc))
    exact ⟨some a, cap', zs.take len', by rw [hcs, e], hI⟩
set_option maxRecDepth 100000 in
theorem deed_of_trod {fuel : Nat} {cs : List Value} {x : DataW H × List MemPlace} (hf : DataW.trod enc Tryd.prog W base (fun _ => true) true fuel 24 cs = some x) : ∃ k A c xs, cs = [.int .i64 k, .slice A (List.length xs) c] ∧ Ints W A c xs := by
  obtain ⟨y0, y1, n, -, hl, h0, h1⟩ := trod_struct2 Tryd.underlying24 hf
  rw [cellsD] at hl
  match cs, hl with
  | [x, y], _ =>
    simp only [cellsI, show Tryd.prog.cellsOf 22 = 1 by kernel_rfl] at h0 h1
    obtain ⟨k, e0, -, -⟩ := DataW.trod_int Tryd.underlying3 h0
    obtain ⟨A, c, xs, e1, hI⟩ := ints_of_trod h1
    simp at e0 e1
    exact ⟨k, A, c, xs, by rw [e0, e1], hI⟩
set_option maxRecDepth 100000 in
/-- AN ARGUMENT that is a deed -/
theorem read_deed {r : Reach} {b0 : Nat} {v : Value} {d : DataW H} {ps : List MemPlace} (hval : Value.okWide Tryd.prog W r b0 24 v) (h : DataW.Trod enc Tryd.prog W base (fun _ => true) true 24 v d ps) :
    ∃ k A c xs, v = .agg #[.int .i64 k, .slice A (List.length xs) c] ∧ Ints W A c xs := by
  obtain ⟨cs, rfl, hsz⟩ := okWide_struct Tryd.underlying24 hval
  obtain ⟨fuel, hf⟩ := h
  obtain ⟨k, A, c, xs, e, hI⟩ := deed_of_trod hf
  refine ⟨k, A, c, xs, ?_, hI⟩
  rw [cellsD] at hsz
  match cs, hsz with
  | ⟨[x, y]⟩, _ =>
    simp [Value.cells] at e
    rw [e.1, e.2]
set_option maxRecDepth 100000 in
/-- AN ARGUMENT that is a list of deeds -/
theorem read_deeds {r : Reach} {b0 : Nat} {v : Value} {d : DataW H} {ps : List MemPlace} (hval : Value.okWide Tryd.prog W r b0 31 v) (h : DataW.Trod enc Tryd.prog W base (fun _ => true) true 31 v d ps) :
    ∃ A c ds, v = .slice A (List.length ds) c ∧ DeedsM W A c ds := by
  obtain ⟨a0, len0, cap0, rfl⟩ := okWide_slice Tryd.underlying31 hval
  obtain ⟨fuel, hf⟩ := h
  rcases open_slice Tryd.underlying31 hf with ⟨hcs, _⟩ | ⟨a, len, cap, m, n, D, Pl, hcs, hb, hl, hm, hmm, -, hx⟩
  · simp [Value.cells] at hcs
    obtain ⟨rfl, rfl, rfl⟩ := hcs
    exact ⟨none, 0, [], rfl, Nat.le_refl _, Nat.zero_le _, 0, 0, fun h => absurd h (by simp), fun j hj => absurd hj (by simp)⟩
  · simp [Value.cells] at hcs
    obtain ⟨rfl, rfl, rfl⟩ := hcs
    simp only [if_true] at hmm
    have each : ∀ i, i < len0 → ∃ y : (Int × List Int) × Option Addr × Nat, W.cell? (a.add (i * 2)) = some (.int .i64 y.1.1) ∧ W.cell? ((a.add (i * 2)).add 1) = some (.slice y.2.1 y.1.2.length y.2.2) ∧ Ints W y.2.1 y.2.2 y.1.2 := fun i hi => by
      obtain ⟨cs', h1, h2⟩ := hx i (by omega)
      rw [cellsD] at h1
      obtain ⟨k, A, c, xs, e, hI⟩ := deed_of_trod h2
      obtain ⟨-, -, hat⟩ := World.cells?_some h1
      refine ⟨((k, xs), A, c), ?_, ?_, hI⟩
      · have := hat 0 (by omega)
        rw [e] at this
        simpa [Addr.add] using this
      · have := hat 1 (by omega)
        rw [e] at this
        simpa using this
    have pick : ∀ i, ∃ y : (Int × List Int) × Option Addr × Nat, i < len0 → W.cell? (a.add (i * 2)) = some (.int .i64 y.1.1) ∧ W.cell? ((a.add (i * 2)).add 1) = some (.slice y.2.1 y.1.2.length y.2.2) ∧ Ints W y.2.1 y.2.2 y.1.2 := fun i => by
      by_cases q : i < len0
      · obtain ⟨y, hy⟩ := each i q; exact ⟨y, fun _ => hy⟩
      · exact ⟨((0, []), none, 0), fun h => absurd h q⟩
    obtain ⟨y, hy⟩ := Classical.axiomOfChoice pick
    have hD : ((List.range len0).map fun i => (y i).1).length = len0 := by simp
    refine ⟨some a, cap0, (List.range len0).map fun i => (y i).1, by rw [hD], by rw [hD]; exact hl, hm, ?_⟩
    by_cases h0 : len0 = 0
    · exact ⟨0, 0, fun h => absurd h (by rw [hD]; omega), fun j hj => absurd hj (by rw [hD]; omega)⟩
    · obtain ⟨b, o, s⟩ := a
      have hs : s = none := by simpa [Addr.add] using World.cell?_spot (hy 0 (by omega)).1
      subst hs
      refine ⟨b, o, fun _ => rfl, fun i hi => ?_⟩
      rw [hD] at hi
      obtain ⟨k1, k2, k3⟩ := hy i hi
      rw [add_plain, add_plain] at k2
      rw [add_plain] at k1
      have hk : dk ((List.range len0).map fun i => (y i).1) i = (y i).1.1 ∧ dx ((List.range len0).map fun i => (y i).1) i = (y i).1.2 := by
        unfold dk dx
        simp [List.getD_eq_getElem?_getD, hi]
      rw [hk.1, hk.2]
      exact ⟨_, _, k1, k2, k3⟩
end
end Go.Proofs.YtjpgjmhdjepfgaaDoor
