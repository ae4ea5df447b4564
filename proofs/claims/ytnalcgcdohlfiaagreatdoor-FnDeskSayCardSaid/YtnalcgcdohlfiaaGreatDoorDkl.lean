/- What is proved: plain facts of a desk under way. Conditions: those of each contract. -/
import Derived.Test.YtnalcgcdohlfiaaGreatDoorDdl
import Derived.Test.YtnalcgcdohlfiaaGreatDoorPd
namespace Go.Proofs.YtnalcgcdohlfiaaGreatDoor
open Go.RowKit
/-- a desk's slices, kept wherever the blocks from b on stay, but for ms -/
def Kept (b : Nat) (ms : List Nat) (W : World) (A : Option Addr) (c : Nat) (Bp : Option Addr) (d : Nat) (D : List (List Int)) (L : List (List (List Int))) : Prop :=
  (∃ U V, OwnS b W (.slice Bp L.length d) L U V) ∧ ∃ lo hi, b ≤ lo ∧ hi ≤ W.heap.size ∧ (∀ m ∈ ms, m < lo ∨ hi ≤ m) ∧ ∀ W' : World, (∀ k, lo ≤ k → k < hi → some k ≠ (Value.slice Bp L.length d).ownBlock → W'.heap[k]? = W.heap[k]?) → Mat W' A c D
theorem Kept.mat {b : Nat} {ms : List Nat} {W : World} {A : Option Addr} {c : Nat} {Bp : Option Addr} {d : Nat} {D : List (List Int)} {L : List (List (List Int))} (h : Kept b ms W A c Bp d D L) : Mat W A c D := by
  obtain ⟨-, lo, hi, -, -, -, h5⟩ := h
  exact h5 W fun _ _ _ _ => rfl
theorem Kept.mats {b : Nat} {ms : List Nat} {W : World} {A : Option Addr} {c : Nat} {Bp : Option Addr} {d : Nat} {D : List (List Int)} {L : List (List (List Int))} (h : Kept b ms W A c Bp d D L) : MatS W Bp d L := by
  obtain ⟨⟨U, V, h1⟩, -⟩ := h
  exact h1.mats_of.2
theorem Kept.keep {b : Nat} {ms : List Nat} {W W2 : World} {A : Option Addr} {c : Nat} {Bp : Option Addr} {d : Nat} {D : List (List Int)} {L : List (List (List Int))} (h : Kept b ms W A c Bp d D L) (hk : ∀ k, b ≤ k → k < W.heap.size → k ∉ ms → W2.heap[k]? = W.heap[k]?) (hB : KeepB b W W2) (hs : W.heap.size ≤ W2.heap.size) : Kept b ms W2 A c Bp d D L := by
  obtain ⟨⟨U, V, h1⟩, lo, hi, h2, h3, h4, h5⟩ := h
  refine ⟨⟨U, V, h1.keep hB⟩, lo, hi, h2, by omega, h4, fun W' hW => h5 W' fun k k1 k2 k3 => (hW k k1 k2 k3).trans (hk k (by omega) (by omega) fun e => ?_)⟩
  have := h4 k e
  omega
theorem Kept.sub {b : Nat} {ms ms' : List Nat} {W : World} {A : Option Addr} {c : Nat} {Bp : Option Addr} {d : Nat} {D : List (List Int)} {L : List (List (List Int))} (h : Kept b ms W A c Bp d D L) (hm : ∀ m ∈ ms', m ∈ ms) : Kept b ms' W A c Bp d D L := by
  obtain ⟨h1, lo, hi, h2, h3, h4, h5⟩ := h
  exact ⟨h1, lo, hi, h2, h3, fun m q => h4 m (hm m q), h5⟩
theorem Kept.under {b g : Nat} {ms : List Nat} {W : World} {A : Option Addr} {c : Nat} {Bp : Option Addr} {d : Nat} {D : List (List Int)} {L : List (List (List Int))} (h : Kept b ms W A c Bp d D L) (hg : g < b) : Under W.heap.size g W A c D := by
  obtain ⟨-, lo, hi, h2, h3, h4, h5⟩ := h
  exact fun W' hW => h5 W' fun k k1 k2 _ => hW k (by omega) (by omega)
theorem Kept.from_ {b : Nat} {ms : List Nat} {W : World} {A : Option Addr} {c : Nat} {Bp : Option Addr} {d : Nat} {D : List (List Int)} {L : List (List (List Int))} (h : Kept b ms W A c Bp d D L) : From b W (fun W => Mat W A c D ∧ MatS W Bp d L) := by
  obtain ⟨⟨U, V, h1⟩, lo, hi, h2, h3, h4, h5⟩ := h
  exact fun W' hW => ⟨h5 W' fun k k1 k2 _ => hW k (by omega) (by omega), (h1.keep (keepB_of hW)).mats_of.2⟩
theorem Kept.of {b b1 : Nat} {ms : List Nat} {W : World} {A : Option Addr} {c : Nat} {Bp : Option Addr} {d : Nat} {D : List (List Int)} {L : List (List (List Int))} {U : Nat → Value} {V : Nat → Nat → Value} (h1 : OwnS b1 W (.slice Bp L.length d) L U V) (h2 : FromD b1 W (.slice Bp L.length d) (fun W => Mat W A c D)) (hb : b ≤ b1) (hm : ∀ m ∈ ms, m < b1 ∨ W.heap.size ≤ m) : Kept b ms W A c Bp d D L :=
  ⟨⟨U, V, h1.low hb⟩, b1, W.heap.size, hb, Nat.le_refl _, hm, h2⟩
theorem Kept.ext {b : Nat} {ms : List Nat} {W W2 : World} {A : Option Addr} {c : Nat} {Bp : Option Addr} {d : Nat} {D : List (List Int)} {L : List (List (List Int))} (h : Kept b ms W A c Bp d D L) (k : Ext W W2) : Kept b ms W2 A c Bp d D L :=
  h.keep (fun _ _ q2 _ => k.block q2) (KeepB.of_ext k) k.size
theorem Kept.g {b g : Nat} {ms : List Nat} {W W2 : World} {A : Option Addr} {c : Nat} {Bp : Option Addr} {d : Nat} {D : List (List Int)} {L : List (List (List Int))} (h : Kept b ms W A c Bp d D L) (k : ExtG g W W2) (hg : g < b) : Kept b ms W2 A c Bp d D L :=
  h.keep (fun q q1 q2 _ => k.2.2.2.2 q q2 (by omega)) (KeepB.of_g k hg) k.size
/-- both cells of a desk's block stored -/
theorem Kept.set2 {b m : Nat} {ms : List Nat} {W : World} {A : Option Addr} {c : Nat} {Bp : Option Addr} {d : Nat} {D : List (List Int)} {L : List (List (List Int))} {x y : Value} (h : Kept b ms W A c Bp d D L) (hm : m ∈ ms ∨ m < b ∨ W.heap.size ≤ m) (hb : W.heap[m]? = some (.cells #[x, y] 26 (0, 0))) (u v : Value) :
    Kept b ms ((W.setCell ⟨m, 0, none⟩ u).setCell ⟨m, 1, none⟩ v) A c Bp d D L := by
  refine h.keep (fun k k1 k2 k3 => ?_) (keepB_set2 hb u v).2.2.2.2.2.2 (by simp [World.setCell])
  have hne : k ≠ m := by
    rintro rfl
    rcases hm with q | q | q
    · exact k3 q
    · omega
    · omega
  exact (Below.heap_setCell _ _ _ _ fun e => hne e).trans (Below.heap_setCell _ _ _ _ fun e => hne e)
/-- a desk drawn -/
def SmallD (D : List (List Int)) : Prop := D.length ≤ 6 ∧ ∀ i, i < D.length → ∀ k, k < (row D i).length → 0 ≤ at2 D i k ∧ at2 D i k ≤ 60
theorem small_desk {D : List (List Int)} {L : List (List (List Int))} (h : deskB D L = true) : SmallD D := by
  obtain ⟨⟨h1, h2⟩, h3, h4⟩ := farB_parts (spB_far (deskB_parts h).1)
  exact ⟨h2, fun i hi k hk => by have := h4 i hi k (by rw [h3 i hi] at hk; exact hk); exact ⟨this.1, this.2.1⟩⟩
theorem push_le (L : List (List (List Int))) (D : List (List Int)) : (pushL L D).length ≤ L.length + 1 := by
  unfold pushL
  split <;> simp
theorem do_le (D : List (List Int)) (L : List (List (List Int))) (kind : Int) (xs : List Int) : (doL D L kind xs).length ≤ L.length + 1 := by
  unfold doL
  split
  · rw [List.length_take]; omega
  · split
    · exact push_le L D
    · omega
/-- a desk under way in block m5 -/
def DkS (w : World) (B g m5 : Nat) (u : Int) (D : List (List Int)) (L : List (List (List Int))) (W : World) : Prop :=
  RdU W B g u ∧ ExtG g w W ∧ W.heap[w.heap.size]? = some (.cells #[.slice none 0 0, .slice none 0 0] 26 (0, 0)) ∧ w.heap.size + 1 ≤ m5 ∧
    ∃ A c Bp d, W.heap[m5]? = some (.cells #[.slice A D.length c, .slice Bp L.length d] 26 (0, 0)) ∧ Kept (w.heap.size + 1) [m5] W A c Bp d D L
/-- and one more in block m7 -/
def DkT (w : World) (B g m5 m7 : Nat) (u : Int) (D : List (List Int)) (L : List (List (List Int))) (D' : List (List Int)) (L' : List (List (List Int))) (W : World) : Prop :=
  DkS w B g m5 u D L W ∧ m7 ≠ m5 ∧ ∃ A c Bp d, W.heap[m7]? = some (.cells #[.slice A D'.length c, .slice Bp L'.length d] 26 (0, 0)) ∧ Kept (w.heap.size + 1) [m5] W A c Bp d D' L'
theorem DkS.le {w W : World} {B g m5 : Nat} {u u' : Int} {D : List (List Int)} {L : List (List (List Int))} (h : DkS w B g m5 u D L W) (k : u ≤ u') : DkS w B g m5 u' D L W := ⟨h.1.le k, h.2⟩
theorem DkS.rd {w W W' : World} {B g m5 : Nat} {u u' : Int} {D : List (List Int)} {L : List (List (List Int))} (h : DkS w B g m5 u D L W) (hO : ExtG g W W') (hR : RdU W' B g u') (hB : B ≤ w.heap.size) : DkS w B g m5 u' D L W' := by
  obtain ⟨h1, h2, h3, h4, A, c, Bp, d, h5, h6⟩ := h
  have hg := hR.lt
  exact ⟨hR, h2.trans hO, (hO.2.2.2.2 _ (heap_lt h3) (by omega)).trans h3, h4, A, c, Bp, d, (hO.2.2.2.2 _ (heap_lt h5) (by omega)).trans h5, h6.g hO (by omega)⟩
theorem DkS.ext {w W W' : World} {B g m5 : Nat} {u : Int} {D : List (List Int)} {L : List (List (List Int))} (h : DkS w B g m5 u D L W) (k : Ext W W') (hB : B ≤ w.heap.size) : DkS w B g m5 u D L W' :=
  h.rd (k.toG g) (h.1.ext k (by have := h.2.1.size; omega)) hB
/-- the new desk stored in place of the old one -/
theorem DkT.take {w W : World} {B g m5 m7 : Nat} {u : Int} {D D' : List (List Int)} {L L' : List (List (List Int))} (h : DkT w B g m5 m7 u D L D' L' W) (hB : B ≤ w.heap.size) :
    ∃ A c Bp d, W.heap[m7]? = some (.cells #[.slice A D'.length c, .slice Bp L'.length d] 26 (0, 0)) ∧ DkS w B g m5 u D' L' ((W.setCell ⟨m5, 0, none⟩ (.slice A D'.length c)).setCell ⟨m5, 1, none⟩ (.slice Bp L'.length d)) := by
  obtain ⟨⟨h1, h2, h3, h4, A0, c0, B0, d0, h5, h6⟩, hne, A, c, Bp, d, h7, h8⟩ := h
  refine ⟨A, c, Bp, d, h7, (h1.set (p := ⟨m5, 0, none⟩) (by show B ≤ m5; omega) _).set (p := ⟨m5, 1, none⟩) (by show B ≤ m5; omega) _, (h2.set (p := ⟨m5, 0, none⟩) (by show w.heap.size ≤ m5; omega) _).set (p := ⟨m5, 1, none⟩) (by show w.heap.size ≤ m5; omega) _,
    set_far (set_far h3 (by show w.heap.size ≠ m5; omega)) (by show w.heap.size ≠ m5; omega), h4, A, c, Bp, d, set_1 (set_0 h5), h8.set2 (.inl (by simp)) h5 _ _⟩
/-- what DeskDo hands back, stored in a new block -/
theorem DkT.of {w wc w7 w8 wf : World} {B g m5 m7 : Nat} {u u' : Int} {D D' : List (List Int)} {L L' : List (List (List Int))} (h : DkS w B g m5 u D L wc) (hB : B ≤ w.heap.size) (hx7 : ExtG g wc w7) (hR7 : RdU w7 B g u')
    {A : Option Addr} {c : Nat} {Bp : Option Addr} {d : Nat} {U : Nat → Value} {V : Nat → Nat → Value} (hx8 : Ext w7 w8) (hS : OwnS w7.heap.size w8 (.slice Bp L'.length d) L' U V) (hF : FromD w7.heap.size w8 (.slice Bp L'.length d) (fun W => Mat W A c D'))
    (hm : ∃ wz, Ext w8 wz ∧ wz.heap[m7]? = some (.cells #[.slice none 0 0, .slice none 0 0] 26 (0, 0)) ∧ wf = (wz.setCell ⟨m7, 0, none⟩ (.slice A D'.length c)).setCell ⟨m7, 1, none⟩ (.slice Bp L'.length d)) (hm7 : wc.heap.size ≤ m7 ∧ (m7 < w7.heap.size ∨ w8.heap.size ≤ m7)) : DkT w B g m5 m7 u' D L D' L' wf := by
  obtain ⟨wz, hz1, hz2, rfl⟩ := hm
  have hg := hR7.lt
  have hsz := h.2.1.size
  have h5lt : m5 < wc.heap.size := by
    obtain ⟨-, -, -, -, A0, c0, B0, d0, h5, -⟩ := h
    exact heap_lt h5
  have hl := heap_lt h.2.2.1
  have s7 := hx7.size
  have s8 := hx8.size
  have sz := hz1.size
  have hne : m7 ≠ m5 := by omega
  have hK : Kept (w.heap.size + 1) [m5] wz A c Bp d D' L' := by
    refine (Kept.of hS hF (by omega) fun m q => ?_).ext hz1
    have : m = m5 := by simpa using q
    omega
  have hK2 : Kept (w.heap.size + 1) [m5, m7] wz A c Bp d D' L' := by
    refine (Kept.of hS hF (by omega) fun m q => ?_).ext hz1
    have : m = m5 ∨ m = m7 := by simpa using q
    omega
  obtain ⟨k1, k2, k3, k4, A0, c0, B0, d0, k5, k6⟩ := ((h.rd hx7 hR7 hB).ext hx8 hB).ext hz1 hB
  have hq : ∀ q, q < wc.heap.size → ((wz.setCell ⟨m7, 0, none⟩ (.slice A D'.length c)).setCell ⟨m7, 1, none⟩ (.slice Bp L'.length d)).heap[q]? = wz.heap[q]? := fun q hq =>
    (Below.heap_setCell _ _ _ _ fun e => by have e : q = m7 := e; omega).trans (Below.heap_setCell _ _ _ _ fun e => by have e : q = m7 := e; omega)
  refine ⟨⟨(k1.set (p := ⟨m7, 0, none⟩) (by show B ≤ m7; omega) _).set (p := ⟨m7, 1, none⟩) (by show B ≤ m7; omega) _, (k2.set (p := ⟨m7, 0, none⟩) (by show w.heap.size ≤ m7; omega) _).set (p := ⟨m7, 1, none⟩) (by show w.heap.size ≤ m7; omega) _,
    (hq _ (by omega)).trans k3, k4, A0, c0, B0, d0, (hq _ h5lt).trans k5, ?_⟩, hne, A, c, Bp, d, set_1 (set_0 hz2), (hK2.set2 (.inl (by simp)) hz2 _ _).sub (by simp)⟩
  -- the old desk
  obtain ⟨-, -, -, -, A1, c1, B1, d1, j5, j6⟩ := h
  have e := (hz1.block (by have := hx8.size; omega)).trans ((hx8.block (by omega)).trans (hx7.2.2.2.2 m5 h5lt (by omega)))
  rw [k5, j5] at e
  injection e with e
  injection e with e _ _
  have e1 := congrArg (fun a => a[0]?) e
  have e2 := congrArg (fun a => a[1]?) e
  simp at e1 e2
  obtain ⟨rfl, rfl⟩ := e1
  obtain ⟨rfl, rfl⟩ := e2
  have hx : ExtG g wc wz := hx7.trans ((hx8.trans hz1).toG g)
  refine j6.keep (fun k q1 q2 q3 => (hq k q2).trans (hx.2.2.2.2 k q2 (by omega))) ((KeepB.of_g hx (by omega)).trans (keepB_set2 hz2 _ _).2.2.2.2.2.2) (by have := hx.size; simp [World.setCell]; omega)
end Go.Proofs.YtnalcgcdohlfiaaGreatDoor
