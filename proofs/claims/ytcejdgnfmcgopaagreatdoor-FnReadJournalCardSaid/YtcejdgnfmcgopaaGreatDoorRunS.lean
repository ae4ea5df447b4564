/- What is proved: spec.DeskRun. Conditions: those of each contract. -/
import Derived.Test.YtcejdgnfmcgopaaGreatDoorRun
import Derived.Test.YtcejdgnfmcgopaaGreatDoorDsk
import Derived.Deep.DeepCutAuto
import Derived.Deep.RegionLaw
import Derived.Deep.CutBlock
namespace Go.Proofs.YtcejdgnfmcgopaaGreatDoor
open Go.RowKit
/-- kept wherever the blocks from b on stay, but for m -/
def FromM (b m : Nat) (w : World) (P : World → Prop) : Prop := ∀ W : World, (∀ k, b ≤ k → k < w.heap.size → k ≠ m → W.heap[k]? = w.heap[k]?) → P W
theorem FromM.ext {b m : Nat} {w w' : World} {P : World → Prop} (h : FromM b m w P) (k : Ext w w') : FromM b m w' P := fun W hW => h W fun q h1 h2 h3 => (hW q h1 (by have := k.size; omega) h3).trans (k.block h2)
theorem FromM.set {b m j : Nat} {w : World} {P : World → Prop} (h : FromM b m w P) (v : Value) : FromM b m (w.setCell ⟨m, j, none⟩ v) P := fun W hW => h W fun q h1 h2 h3 => (hW q h1 (by simpa [World.setCell] using h2) h3).trans (Below.heap_setCell _ _ _ _ (by show q ≠ m; exact h3))
theorem FromM.set' {b m p j : Nat} {w : World} {P : World → Prop} (h : FromM b m w P) (hp : p < b) (v : Value) : FromM b m (w.setCell ⟨p, j, none⟩ v) P := fun W hW => h W fun q h1 h2 h3 => (hW q h1 (by simpa [World.setCell] using h2) h3).trans (Below.heap_setCell _ _ _ _ (by show q ≠ p; omega))
theorem FromM.now {b m : Nat} {w : World} {P : World → Prop} (h : FromM b m w P) : P w := h w fun _ _ _ _ => rfl
/-- the desk under way in block m6 -/
def SRun (w : World) (m6 : Nat) (D : List (List Int)) (L : List (List (List Int))) (W : World) : Prop :=
  (Ext w W ∧ w.heap.size + 2 ≤ m6) ∧ (∃ A c B d, W.heap[m6]? = some (.cells #[.slice A D.length c, .slice B L.length d] 26 (0, 0)) ∧ FromM (w.heap.size + 2) m6 W (fun W => Mat W A c D ∧ MatS W B d L)) ∧ ∃ x y, W.heap[w.heap.size + 1]? = some (.cells #[x, y] 26 (0, 0))
/-- and one more in block m9 -/
def TRun (w : World) (m6 m9 : Nat) (D : List (List Int)) (L : List (List (List Int))) (D' : List (List Int)) (L' : List (List (List Int))) (W : World) : Prop :=
  SRun w m6 D L W ∧ ∃ A c B d, W.heap[m9]? = some (.cells #[.slice A D'.length c, .slice B L'.length d] 26 (0, 0)) ∧ FromM (w.heap.size + 2) m6 W (fun W => Mat W A c D' ∧ MatS W B d L')
section
variable {w W W' : World} {m6 m9 : Nat} {D D' : List (List Int)} {L L' : List (List (List Int))}
theorem SRun.ext (h : SRun w m6 D L W) (k : Ext W W') : SRun w m6 D L W' := by
  obtain ⟨⟨h1, h1'⟩, ⟨A, c, B, d, h2, h3⟩, x, y, h4⟩ := h
  exact ⟨⟨h1.trans k, h1'⟩, ⟨A, c, B, d, (k.block (heap_lt h2)).trans h2, h3.ext k⟩, x, y, (k.block (heap_lt h4)).trans h4⟩
theorem TRun.take (h : TRun w m6 m9 D L D' L' W) :
    ∃ A c B d, W.heap[m9]? = some (.cells #[.slice A D'.length c, .slice B L'.length d] 26 (0, 0)) ∧ SRun w m6 D' L' ((W.setCell ⟨m6, 0, none⟩ (.slice A D'.length c)).setCell ⟨m6, 1, none⟩ (.slice B L'.length d)) := by
  obtain ⟨⟨⟨h1, h1'⟩, ⟨A0, c0, B0, d0, h2, h3⟩, x, y, h4⟩, A, c, B, d, h5, h6⟩ := h
  refine ⟨A, c, B, d, h5, ⟨(h1.setCell' (p := ⟨m6, 0, none⟩) (by show w.heap.size ≤ m6; omega) _).setCell' (p := ⟨m6, 1, none⟩) (by show w.heap.size ≤ m6; omega) _, h1'⟩, ⟨A, c, B, d, set_1 (set_0 h2), (h6.set _).set _⟩, x, y, set_far (set_far h4 ?_) ?_⟩
  · show w.heap.size + 1 ≠ m6; omega
  · show w.heap.size + 1 ≠ m6; omega
theorem SRun.start {a b x y : Value} (k : Ext ((w.alloc (.cells #[a, b] 26)).alloc (.cells #[x, y] 26)) W) {A : Option Addr} {c : Nat} {B : Option Addr} {d : Nat} {bs : Nat} (hb : w.heap.size + 2 ≤ bs) (hO : OwnDk bs W (.agg #[.slice A D.length c, .slice B L.length d]) D L) :
    SRun w W.heap.size D L (W.alloc (.cells #[.slice A D.length c, .slice B L.length d] 26)) := by
  obtain ⟨b0, b1, hx, hs⟩ := two_blocks k
  have hx2 : Ext W (W.alloc (.cells #[.slice A D.length c, .slice B L.length d] 26)) := Ext.alloc _ _
  refine ⟨⟨hx.trans hx2, hs⟩, ⟨A, c, B, d, heap_alloc_new W _, fun W' hW => ?_⟩, x, y, (hx2.block (heap_lt b1)).trans b1⟩
  have hK : KeepB bs W W' := fun g cs t hg hh _ => (hW g (by omega) (by have := heap_lt hh; have := hx2.size; omega) (by have := heap_lt hh; omega)).trans (hx2.block (heap_lt hh))
  obtain ⟨Aq, cq, Bq, dq, eq, m1q, m2q, -, -⟩ := (hO.keep hK).split
  simp only [Value.agg.injEq, Array.mk.injEq, List.cons.injEq, Value.slice.injEq] at eq
  obtain ⟨⟨rfl, -, rfl⟩, ⟨rfl, -, rfl⟩, -⟩ := eq
  exact ⟨m1q, m2q⟩
/-- what DeskDo hands back, stored in a new block -/
theorem TRun.of {wc w7 w8 wf : World} (h : SRun w m6 D L wc) (hx7 : Ext wc w7) (hx8 : Ext w7 w8) {A : Option Addr} {c : Nat} {B : Option Addr} {d : Nat} (hF : From w7.heap.size w8 (fun W => Mat W A c D' ∧ MatS W B d L'))
    (hm : ∃ wz, Ext w8 wz ∧ wz.heap[m9]? = some (.cells #[.slice none 0 0, .slice none 0 0] 26 (0, 0)) ∧ wf = (wz.setCell ⟨m9, 0, none⟩ (.slice A D'.length c)).setCell ⟨m9, 1, none⟩ (.slice B L'.length d)) (hm9 : wc.heap.size ≤ m9 ∧ (m9 < w7.heap.size ∨ w8.heap.size ≤ m9)) : TRun w m6 m9 D L D' L' wf := by
  obtain ⟨wz, hz1, hz2, rfl⟩ := hm
  have s7 := hx7.size
  have s8 := hx8.size
  have sz := hz1.size
  have hxz : Ext wc wz := (hx7.trans hx8).trans hz1
  have hxf : Ext wc ((wz.setCell ⟨m9, 0, none⟩ (.slice A D'.length c)).setCell ⟨m9, 1, none⟩ (.slice B L'.length d)) := (hxz.setCell' (p := ⟨m9, 0, none⟩) hm9.1 _).setCell' (p := ⟨m9, 1, none⟩) hm9.1 _
  have h6 : m6 < wc.heap.size := by
    obtain ⟨-, ⟨_, _, _, _, h2, -⟩, -⟩ := h
    exact heap_lt h2
  have h62 := h.1.2
  refine ⟨h.ext hxf, A, c, B, d, set_1 (set_0 hz2), fun W' hW => hF W' fun k k1 k2 => ?_⟩
  have hne : k ≠ m9 := by omega
  refine (hW k (by omega) (by simp [World.setCell]; omega) (by omega)).trans (((Below.heap_setCell _ _ _ _ (by show k ≠ m9; exact hne)).trans (Below.heap_setCell _ _ _ _ (by show k ≠ m9; exact hne))).trans (hz1.block k2))
end
theorem v_of {D : List (List Int)} {L : List (List (List Int))} {kind : Int} {xs : List Int} (h : deskB D L = true) : vD D L kind xs = doD D L kind xs ∧ vL D L kind xs = doL D L kind xs ∧ vB D L kind xs = doB D L kind xs := by
  unfold vD vL vB
  rw [if_pos h, if_pos h, h, Bool.true_and]
  exact ⟨rfl, rfl, rfl⟩
/-- what DeskRun hands back -/
def RunT (w : World) (D : List (List Int)) (L : List (List (List Int))) (n : Int) (e : Ending) (w' : World) : Prop := ∃ A c B d, e = .returned (.tuple #[.agg #[.slice A D.length c, .slice B L.length d], .int .i64 n]) ∧ Mat w' A c D ∧ MatS w' B d L ∧ Ext w w'
end Go.Proofs.YtcejdgnfmcgopaaGreatDoor
