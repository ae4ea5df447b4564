/- What is proved: l20Desk draws a desk (if l20Deed draws a deed). Conditions: those of each contract. -/
import Derived.Test.YtnalcgcdohlfiaaGreatDoorDkl
import Derived.Deep.DeepCutAuto
import Derived.Deep.RegionLaw
import Derived.Deep.CutBlock
namespace Go.Proofs.YtnalcgcdohlfiaaGreatDoor
open Go.RowKit
/-- the contract of l20Deed -/
def DeedAny : Prop := ∀ (w : World) (B g : Nat) (u : Int) (_ : RdU w B g u) (_ : B ≤ w.heap.size) (_ : u ≤ 200000) (A : Option Addr) (c : Nat) (D : List (List Int)) (p2 : Value) (_ : Under w.heap.size g w A c D) (_ : D.length ≤ 6) (_ : ∀ i, i < D.length → ∀ k, k < (row D i).length → 0 ≤ at2 D i k ∧ at2 D i k ≤ 60) (_ : p2.oneCell' = true),
    Calls Tryz.prog 28 #[.pointer (some ⟨g, 0, none⟩), .agg #[.slice A D.length c, p2]] w (DrawnDd w B g (u + 30))
theorem from_new (w W : World) (hw : W.heap.size = w.heap.size + 1) :
    From w.heap.size ((W.alloc (.cells #[.int .i64 0] 3)).alloc (.cells #[.slice (some ⟨w.heap.size + 1, 0, none⟩) 1 1] 47)) (fun W => Mat W (some ⟨w.heap.size + 1 + 1, 0, none⟩) 1 [[0]]) := by
  intro W' hW
  have h1 : (W.alloc (.cells #[.int .i64 0] 3)).heap[w.heap.size + 1]? = some (.cells #[.int .i64 0] 3 (0, 0)) := by rw [← hw]; exact heap_alloc_new W _
  have hz : (W.alloc (.cells #[.int .i64 0] 3)).heap.size = w.heap.size + 1 + 1 := by simp [hw]
  have h2 : ((W.alloc (.cells #[.int .i64 0] 3)).alloc (.cells #[.slice (some ⟨w.heap.size + 1, 0, none⟩) 1 1] 47)).heap[w.heap.size + 1 + 1]? = some (.cells #[.slice (some ⟨w.heap.size + 1, 0, none⟩) 1 1] 47 (0, 0)) := by rw [← hz]; exact heap_alloc_new _ _
  have h3 : ((W.alloc (.cells #[.int .i64 0] 3)).alloc (.cells #[.slice (some ⟨w.heap.size + 1, 0, none⟩) 1 1] 47)).heap[w.heap.size + 1]? = some (.cells #[.int .i64 0] 3 (0, 0)) := by rw [Ext.block (Ext.alloc _ _) (heap_lt h1)]; exact h1
  have k2 := (hW _ (by omega) (heap_lt h2)).trans h2
  have k3 := (hW _ (by omega) (heap_lt h3)).trans h3
  refine ⟨Nat.le_refl _, by unfold maxLen; decide, w.heap.size + 1 + 1, 0, fun _ => rfl, fun i hi => ?_⟩
  have e : i = 0 := by simp at hi; exact hi
  subst e
  refine ⟨some ⟨w.heap.size + 1, 0, none⟩, 1, by rw [cell_cells k2]; rfl, Nat.le_refl _, by unfold maxLen; decide, w.heap.size + 1, 0, fun _ => rfl, fun j hj => ?_⟩
  have e : j = 0 := by have : j < 1 := hj; omega
  subst e
  rw [cell_cells k3]; rfl
set_option maxHeartbeats 1000000 in
theorem sDeskNew_from (w : World) : Calls Tryz.prog 26 #[] w (fun e w' => ∃ A c, e = .returned (.agg #[.slice A 1 c, .slice none 0 0]) ∧ From w.heap.size w' (fun W => Mat W A c [[0]]) ∧ Ext w w') := by
  go_enter Tryz.func26, Tryz.ntmps26
  go_wp2
  have h1 := from_new w (w.alloc (.cells #[.slice (some ⟨w.heap.size + 1 + 1, 0, none⟩) 1 1, .slice none 0 0] 26)) (by simp)
  obtain ⟨-, h2⟩ := new_one w (w.alloc (.cells #[.slice (some ⟨w.heap.size + 1 + 1, 0, none⟩) 1 1, .slice none 0 0] 26)) (by simp) (Ext.alloc _ _)
  exact bodyPost_ret (v := .agg #[.slice (some ⟨w.heap.size + 1 + 1, 0, none⟩) 1 1, .slice none 0 0]) (by simp [results, Tryz.results26, go_sem]) rfl ⟨_, 1, rfl, h1, h2⟩
theorem DkS.start {w w1 : World} {B g : Nat} {u : Int} (hR : RdU w B g u) (hB : B ≤ w.heap.size) {A : Option Addr} {c : Nat}
    (hF : From (w.heap.size + 1) w1 (fun W => Mat W A c [[0]])) (hx : Ext (w.alloc (.cells #[.slice none 0 0, .slice none 0 0] 26)) w1) :
    DkS w B g w1.heap.size u [[0]] [] (w1.alloc (.cells #[.slice A 1 c, .slice none 0 0] 26)) := by
  have hg := hR.lt
  have s1 := hx.size
  have hz : w.heap.size + 1 ≤ w1.heap.size := by simp at s1; omega
  have hx1 : Ext w w1 := (Ext.alloc w _).trans hx
  have hb : w1.heap[w.heap.size]? = some (.cells #[.slice none 0 0, .slice none 0 0] 26 (0, 0)) := (hx.block (by simp)).trans (heap_alloc_new w _)
  refine ⟨hR.ext (hx1.alloc' _) hB, (hx1.alloc' _).toG g, (Below.heap_alloc _ _ _ (heap_lt hb)).trans hb, hz, A, c, none, 0, heap_alloc_new _ _, ⟨⟨fun _ => .slice none 0 0, fun _ _ => .slice none 0 0, OwnS.nil _ _ _ _⟩, w.heap.size + 1, w1.heap.size, Nat.le_refl _, by simp, fun m hm => ?_, fun W' hW => hF W' fun k k1 k2 => (hW k k1 k2 (by simp [Value.ownBlock])).trans (Below.heap_alloc _ _ _ k2)⟩⟩
  have : m = w1.heap.size := by simpa using hm
  omega
theorem v_desk {D : List (List Int)} {L : List (List (List Int))} {kind : Int} {xs : List Int} (h : deskB D L = true) : deskB (vD D L kind xs) (vL D L kind xs) = true ∧ (vL D L kind xs).length ≤ L.length + 1 := by
  unfold vD vL
  rw [if_pos h, if_pos h]
  exact ⟨do_desk h, do_le D L kind xs⟩
theorem alloc_set2 (w : World) (a b x y : Value) (T : TypeId) : w.alloc (.cells #[a, b] T) = ((w.alloc (.cells #[x, y] T)).setCell ⟨w.heap.size, 0, none⟩ a).setCell ⟨w.heap.size, 1, none⟩ b := by
  first | (go_simp; done) | (simp [go_sem]; done) | (simp [World.alloc_eq, World.setCell]; done)
/-- a desk drawn -/
def DrawnDk (w : World) (B g : Nat) (u : Int) (e : Ending) (w' : World) : Prop :=
  ∃ A c Bp d D L, e = .returned (.agg #[.slice A (List.length D) c, .slice Bp (List.length L) d]) ∧ From w.heap.size w' (fun W => Mat W A c D ∧ MatS W Bp d L) ∧ SmallD D ∧ RdU w' B g u ∧ ExtG g w w'
theorem DkS.one {w W : World} {B g m5 : Nat} {u : Int} {D : List (List Int)} {L : List (List (List Int))} (x : Int) (h : DkS w B g m5 u D L W) (hB : B ≤ w.heap.size) :
    DkS w B g m5 u [[x]] L (((W.alloc (.cells #[.int .i64 x] 3)).alloc (.cells #[.slice (some ⟨W.heap.size, 0, none⟩) 1 1] 47)).setCell ⟨m5, 0, none⟩ (.slice (some ⟨W.heap.size + 1, 0, none⟩) 1 1)) := by
  have hsz := h.2.1.size
  obtain ⟨h1, h2, h3, h4, A, c, Bp, d, h5, h6⟩ := h.ext ((Ext.alloc W (.cells #[.int .i64 x] 3)).alloc' (.cells #[.slice (some ⟨W.heap.size, 0, none⟩) 1 1] 47)) hB
  have hlt : m5 < W.heap.size := by
    obtain ⟨-, -, -, -, A0, c0, B0, d0, q5, -⟩ := h
    exact heap_lt q5
  have hl0 : w.heap.size < W.heap.size := heap_lt h.2.2.1
  have k1 : ((W.alloc (.cells #[.int .i64 x] 3)).alloc (.cells #[.slice (some ⟨W.heap.size, 0, none⟩) 1 1] 47)).heap[W.heap.size]? = some (.cells #[.int .i64 x] 3 (0, 0)) := (Below.heap_alloc _ _ _ (by simp)).trans (heap_alloc_new W _)
  have k2 : ((W.alloc (.cells #[.int .i64 x] 3)).alloc (.cells #[.slice (some ⟨W.heap.size, 0, none⟩) 1 1] 47)).heap[W.heap.size + 1]? = some (.cells #[.slice (some ⟨W.heap.size, 0, none⟩) 1 1] 47 (0, 0)) := by
    have e : (W.alloc (.cells #[.int .i64 x] 3)).heap.size = W.heap.size + 1 := by simp
    rw [← e]; exact heap_alloc_new _ _
  have hsW : ((W.alloc (.cells #[.int .i64 x] 3)).alloc (.cells #[.slice (some ⟨W.heap.size, 0, none⟩) 1 1] 47)).heap.size = W.heap.size + 2 := by simp
  obtain ⟨W2, hW2⟩ : ∃ W2, (W.alloc (.cells #[.int .i64 x] 3)).alloc (.cells #[.slice (some ⟨W.heap.size, 0, none⟩) 1 1] 47) = W2 := ⟨_, rfl⟩
  rw [hW2] at h1 h2 h3 h5 h6 k1 k2 hsW ⊢
  refine ⟨h1.set (p := ⟨m5, 0, none⟩) (by show B ≤ m5; omega) _, h2.set (p := ⟨m5, 0, none⟩) (by show w.heap.size ≤ m5; omega) _, set_far h3 (by show w.heap.size ≠ m5; omega), h4, some ⟨W.heap.size + 1, 0, none⟩, 1, Bp, d, set_0 h5, ?_⟩
  obtain ⟨⟨U, V, hS⟩, -⟩ := h6
  refine ⟨⟨U, V, hS.keep (KeepB.set (p := ⟨m5, 0, none⟩) h5 (by decide) _)⟩, W.heap.size, W.heap.size + 2, by omega, by rw [← hsW]; simp [World.setCell], fun m hm => ?_, fun W' hW => ?_⟩
  · have : m = m5 := by simpa using hm
    omega
  · have hv : ∀ q, q < W.heap.size + 2 → W.heap.size ≤ q → some q ≠ (Value.slice Bp L.length d).ownBlock := by
      intro q hq hq2 e
      have h9 := (hS.1.lt q e.symm).2
      rcases hS.1.2 with ⟨e0, _⟩ | ⟨g', cap, cur, e1, _, e3, _⟩
      · rw [e0] at e; simp [Value.ownBlock] at e
      · rw [e1] at e
        simp [Value.ownBlock] at e
        subst e
        have : q = W.heap.size ∨ q = W.heap.size + 1 := by omega
        rcases this with rfl | rfl
        · rw [k1] at e3; injection e3 with e3; injection e3 with _ e3; exact absurd e3 (by decide)
        · rw [k2] at e3; injection e3 with e3; injection e3 with _ e3; exact absurd e3 (by decide)
    have r1 := ((hW _ (Nat.le_refl _) (by omega) (hv _ (by omega) (Nat.le_refl _))).trans (Below.heap_setCell _ _ _ _ (by show W.heap.size ≠ m5; omega))).trans k1
    have r2 := ((hW (W.heap.size + 1) (by omega) (by omega) (hv _ (by omega) (by omega))).trans (Below.heap_setCell _ _ _ _ (by show W.heap.size + 1 ≠ m5; omega))).trans k2
    refine ⟨Nat.le_refl _, by unfold maxLen; decide, W.heap.size + 1, 0, fun _ => rfl, fun i hi => ?_⟩
    have e : i = 0 := by simp at hi; exact hi
    subst e
    refine ⟨some ⟨W.heap.size, 0, none⟩, 1, by rw [cell_cells r2]; rfl, Nat.le_refl _, by unfold maxLen; decide, W.heap.size, 0, fun _ => rfl, fun j hj => ?_⟩
    have e : j = 0 := by have : j < 1 := hj; omega
    subst e
    rw [cell_cells r1]; rfl
theorem DkS.done {w W : World} {B g m5 : Nat} {u : Int} {D : List (List Int)} {L : List (List (List Int))} (h : DkS w B g m5 u D L W) (hB : B ≤ w.heap.size) {A : Option Addr} {c : Nat} {Bp : Option Addr} {d : Nat} {ms : List Nat} (hK : Kept (w.heap.size + 1) ms W A c Bp d D L) (x y : Value) :
    From w.heap.size ((W.setCell ⟨w.heap.size, 0, none⟩ x).setCell ⟨w.heap.size, 1, none⟩ y) (fun W => Mat W A c D ∧ MatS W Bp d L) ∧ RdU ((W.setCell ⟨w.heap.size, 0, none⟩ x).setCell ⟨w.heap.size, 1, none⟩ y) B g u ∧ ExtG g w ((W.setCell ⟨w.heap.size, 0, none⟩ x).setCell ⟨w.heap.size, 1, none⟩ y) :=
  ⟨From.low (b := w.heap.size + 1) ((hK.from_.set (p := ⟨w.heap.size, 0, none⟩) (by show w.heap.size < w.heap.size + 1; omega) _).set (p := ⟨w.heap.size, 1, none⟩) (by show w.heap.size < w.heap.size + 1; omega) _) (by omega),
    (h.1.set (p := ⟨w.heap.size, 0, none⟩) hB _).set (p := ⟨w.heap.size, 1, none⟩) hB _, (h.2.1.set (p := ⟨w.heap.size, 0, none⟩) (Nat.le_refl _) _).set (p := ⟨w.heap.size, 1, none⟩) (Nat.le_refl _) _⟩
theorem DkS.push {P : Program} {w W : World} {B g m5 : Nat} {u : Int} {D : List (List Int)} {L : List (List (List Int))} {T E ty : TypeId} (hE : E = 23)
    (ht : P.underlying T = some (.slice E)) (hinfo : (P.info? E).map (fun i => (i.zero, i.size, i.bytes)) = some (some (.slice none 0 0), 1, 24)) (h : DkS w B g m5 u D L W) (hB : B ≤ w.heap.size)
    {A : Option Addr} {c : Nat} {Bp : Option Addr} {d : Nat} (hb5 : W.heap[m5]? = some (.cells #[.slice A D.length c, .slice Bp L.length d] 26 (0, 0))) (hK : Kept (w.heap.size + 1) [m5] W A c Bp d D L) (hl : L.length ≤ 7) :
    ∃ v' w', (Builtin.append_ #[T, T] ty #[.slice Bp L.length d, .slice (some ⟨W.heap.size + 1, 0, none⟩) 1 1]).run P ((W.alloc (.cells #[] 47)).alloc (.cells #[.slice (some ⟨W.heap.size, 0, none⟩) 0 0] E)) = .ok v' w' ∧
      ∃ B9 d9, v' = .slice B9 (L.length + 1) d9 ∧ w'.cell? ⟨m5, 1, none⟩ = some (.slice Bp L.length d) ∧ w'.frozen? ⟨m5, 1, none⟩ = false ∧ DkS w B g m5 u D (L ++ [[]]) (w'.setCell ⟨m5, 1, none⟩ v') := by
  subst hE
  have hl0 : w.heap.size < W.heap.size := heap_lt h.2.2.1
  have hlt : m5 < W.heap.size := heap_lt hb5
  have hM0 : OwnM (w.heap.size + 1) (W.alloc (.cells #[] 47)) (.slice (some ⟨W.heap.size, 0, none⟩) 0 0) [] (fun _ => .slice none 0 0) :=
    OwnM.low (b := W.heap.size) ⟨World.ownsRow_made W #[] 0 (Nat.le_refl _) (Nat.zero_le _) rfl, fun i hi => absurd hi (by simp), fun i j hi => absurd hi (by simp), fun i hi => absurd hi (by simp)⟩ (by omega)
  have hM1 := hM0.keep (KeepB.of_ext (Ext.alloc (W.alloc (.cells #[] 47)) (.cells #[.slice (some ⟨W.heap.size, 0, none⟩) 0 0] 23)))
  have hc1 := cell_new0 (W.alloc (.cells #[] 47)) (.slice (some ⟨W.heap.size, 0, none⟩) 0 0) 23
  have hsz1 : (W.alloc (.cells #[] 47)).heap.size = W.heap.size + 1 := by simp
  rw [hsz1] at hc1
  have hxa : Ext W ((W.alloc (.cells #[] 47)).alloc (.cells #[.slice (some ⟨W.heap.size, 0, none⟩) 0 0] 23)) := (Ext.alloc _ _).alloc' _
  obtain ⟨W0, hW0⟩ : ∃ W0, (W.alloc (.cells #[] 47)).alloc (.cells #[.slice (some ⟨W.heap.size, 0, none⟩) 0 0] 23) = W0 := ⟨_, rfl⟩
  rw [hW0] at hM1 hc1 hxa ⊢
  have hb0 := (hxa.block hlt).trans hb5
  obtain ⟨⟨U, V, hS⟩, lo, hi, l1, l2, l3, l4⟩ := hK.ext hxa
  obtain ⟨h1, h2, h3, h4, -⟩ := h.ext hxa hB
  have hbase : w.heap.size + 1 ≤ W0.heap.size := by have := hxa.size; omega
  obtain ⟨v', w', hrun, hx9, hS9, hs9, hk9, hb9, hst⟩ := ownS_pushS (P := P) (w0 := cutW W0 (w.heap.size + 1)) (ty := ty) rfl ht hinfo (ad := ⟨W.heap.size + 1, 0, none⟩) (c := 1) rfl hc1 (cut_ext hbase) (by rw [cut_size hbase]; exact hS) (by rw [cut_size hbase]; exact hM1) (fun p hp => absurd hp (by simp)) (by omega)
  rw [cut_size hbase] at hS9
  obtain ⟨B9, d9, hv9, -⟩ := hS9.mats
  rw [List.length_append, List.length_singleton] at hv9
  subst hv9
  have b5 := (hk9 _ _ _ _ hb0 (by decide)).trans hb0
  have b0 := (hk9 _ _ _ _ h3 (by decide)).trans h3
  have hOS : ∃ U V, OwnS (w.heap.size + 1) (w'.setCell ⟨m5, 1, none⟩ (.slice B9 (L.length + 1) d9)) (.slice B9 (L ++ [[]]).length d9) (L ++ [[]]) U V := by
    rw [List.length_append, List.length_singleton]
    exact ⟨_, _, hS9.keep (KeepB.set (p := ⟨m5, 1, none⟩) b5 (by decide) _)⟩
  refine ⟨_, w', hrun, B9, d9, rfl, (two_cells b5).2, frozen_cells b5 1, (h1.cut hx9 hbase (by omega)).set (p := ⟨m5, 1, none⟩) (by show B ≤ m5; omega) _, (h2.cut hx9 hbase (by omega)).set (p := ⟨m5, 1, none⟩) (by show w.heap.size ≤ m5; omega) _, set_far b0 (by show w.heap.size ≠ m5; omega), h4, A, c, B9, d9, ?_, hOS, lo, hi, l1, ?_, l3, fun W' hW => l4 W' fun k k1 k2 k3 => ?_⟩
  · have := set_1 (u := .slice B9 (L.length + 1) d9) b5
    rw [List.length_append, List.length_singleton]
    exact this
  · have : w'.heap.size = (w'.setCell ⟨m5, 1, none⟩ (.slice B9 (L.length + 1) d9)).heap.size := by simp [World.setCell]
    omega
  · have hne : k ≠ m5 := by
      have := l3 m5 (by simp)
      omega
    have hv : some k ≠ (Value.slice B9 (L ++ [[]]).length d9).ownBlock := by
      intro e
      have e' : some k = (Value.slice B9 (L.length + 1) d9).ownBlock := by rw [e]; cases B9 <;> rfl
      rcases hst with q | q
      · exact k3 (e'.trans q)
      · rw [q] at e'
        injection e' with e'
        omega
    exact ((hW k k1 k2 hv).trans (Below.heap_setCell _ _ _ _ fun e => hne e)).trans (hb9.2 k (by omega) k3)
set_option maxRecDepth 100000 in
set_option maxHeartbeats 4000000 in
theorem l20Desk_any (hDeed : DeedAny) {w : World} {B g : Nat} {u : Int} (hR : RdU w B g u) (hB : B ≤ w.heap.size) (hu : u ≤ 100000) (n : Int) (n0 : 0 ≤ n) (n1 : n ≤ 1000) :
    Calls Tryz.prog 14 #[.pointer (some ⟨g, 0, none⟩), .int .i64 n] w (DrawnDk w B g (u + 250)) := by
  have hg := hR.lt
  have HR := Lib.hid hR
  clear hR
  go_enter Tryz.func14, Tryz.ntmps14
  go_wp2_with fail
  refine (sDeskNew_from _).mono ?_
  rintro e w1 ⟨A, c, rfl, hF, hx⟩
  have HD1 := Lib.hid (DkS.start HR.out hB (by simpa using hF) hx)
  obtain ⟨m5, hm5⟩ : ∃ m, w1.heap.size = m := ⟨_, rfl⟩
  have hc1 := hF.now.2.1
  have hc0 := hF.now.1
  unfold maxLen at hc1
  go_wp2_with fail
  refine (pickU HD1.out.1 8 (by omega) (by omega) (by omega)).mono ?_
  rintro e w2 ⟨K, rfl, K0, K1, hR2, hO2⟩
  have HD2 := Lib.hid (HD1.out.rd hO2.toG hR2 hB)
  obtain ⟨K, rfl⟩ : ∃ n : Nat, K = (n : Int) := ⟨K.toNat, by omega⟩
  rw [hm5] at HD2
  have hK7 : K ≤ 7 := by omega
  clear HD1 hO2 hR2 hx hF K0 K1 HR
  go_wp2_with fail
  go_loopg [6, 7, 8] K (fun gm s6 s7 s8 wr => ∃ (j : Nat) (D : List (List Int)) (L : List (List (List Int))), j + gm = K ∧ s6 = .int .i64 gm ∧ Hid (deskB D L = true ∧ L.length ≤ j) ∧ Hid (DkS w B g m5 (u + 1 + 31 * j) D L wr))
  case atStart => exact ⟨0, [[0]], [], by omega, rfl, Lib.hid ⟨by decide, Nat.le_refl _⟩, Lib.hid (HD2.out.le (by omega))⟩
  case round =>
    clear HD2
    obtain ⟨j, D, L, hj, rfl, HDB, HS⟩ := hrel
    obtain ⟨A, c, Bp, d, hb5, hK⟩ := HS.out.2.2.2.2
    have hw5 := HS.out.2.2.2.1
    obtain ⟨c00, c01⟩ := two_cells hb5
    by_cases hk0 : 0 < gk
    · obtain ⟨g1, rfl⟩ : ∃ g', gk = g' + 1 := ⟨gk - 1, by omega⟩
      have hk0' : (0 : Int) < ((g1 + 1 : Nat) : Int) := by omega
      go_upto_region 5 with fail
      go_cut [7, 8] (fun s7 s8 wx => ∃ m7 D' L' b, s7 = .pointer (some ⟨m7, 0, none⟩) ∧ s8 = .bool b ∧ Hid (deskB D' L' = true ∧ List.length L' ≤ j + 1) ∧ Hid (DkT w B g m5 m7 (u + 1 + 31 * (j + 1)) D L D' L' wx))
      case first =>
        have hlt5 := heap_lt hb5
        have hlt0 := heap_lt HS.out.2.2.1
        have HB5 := Lib.hid (fun W (q : ExtG g wr W) => (q.2.2.2.2 m5 hlt5 (by omega)).trans hb5)
        have HEX := Lib.hid (fun W (q : Ext wr W) => HS.out.ext q hB)
        have HUN := Lib.hid (fun W (q : Ext wr W) => (hK.ext q).under (g := g) (by omega))
        have HSM := Lib.hid (small_desk HDB.out.1)
        have c10 : ∀ x, (wr.drew.alloc x).cell? ⟨m5, 0, none⟩ = _ := fun x => (two_cells (HB5.out _ ((((Ext.refl wr).drew').alloc' x).toG g))).1
        have c11 : ∀ x, (wr.drew.alloc x).cell? ⟨m5, 1, none⟩ = _ := fun x => (two_cells (HB5.out _ ((((Ext.refl wr).drew').alloc' x).toG g))).2
        go_wp2_with fail
        go_region_law (first | (go_simp; go_at_call 28; (fail_if_success (have q := hX5)); refine (hDeed _ _ _ _ (HEX.out _ (by repeat (first | exact Ext.refl _ | apply Ext.drew' | apply Ext.alloc'))).1 (Nat.le_trans hB (HEX.out _ (by repeat (first | exact Ext.refl _ | apply Ext.drew' | apply Ext.alloc'))).2.1.size) (by omega) _ _ _ _ (HUN.out _ (by repeat (first | exact Ext.refl _ | apply Ext.drew' | apply Ext.alloc'))) HSM.out.1 HSM.out.2 rfl).mono ?_; rintro e w5 ⟨kind, X, cx, xs, rfl, hO5, hk5, hx8, hxb, hR5, hX5⟩; have HG5 := Lib.hid (show ExtG g wr w5 from (Ext.toG (by repeat (first | exact Ext.refl _ | apply Ext.drew' | apply Ext.alloc')) g).trans hX5); have hs5 := HG5.out.size; obtain ⟨d00, d01⟩ := two_cells (HB5.out _ HG5.out); have d10 : ∀ x, (w5.alloc x).cell? ⟨m5, 0, none⟩ = _ := (fun x => (two_cells (HB5.out _ (HG5.out.alloc x))).1); have d11 : ∀ x, (w5.alloc x).cell? ⟨m5, 1, none⟩ = _ := (fun x => (two_cells (HB5.out _ (HG5.out.alloc x))).2); have HR5 := Lib.hid (fun W (q : Ext w5 W) => hR5.ext q (Nat.le_trans hB (HS.out.2.1.trans HG5.out).size)); have HDO := Lib.hid (fun W (q : Ext w5 W) => sDeskDo_any A Bp c d D L kind X cx xs W ((hK.g HG5.out (by omega)).ext q).mat ((hK.g HG5.out (by omega)).ext q).mats (hO5.ints.2.ext q)); have HVK := Lib.hid (v_desk (kind := kind) (xs := xs) HDB.out.1); (try have x5 : w5.heap[wr.heap.size]? = some (.cells #[.slice none 0 0, .slice none 0 0] 26 (0, 0)) := ((hX5.2.2.2.2 _ (by simp) (by omega)).trans (alloc_at (by simp))))) | (go_simp; go_at_call 27; refine (HDO.out _ (by repeat (first | exact Ext.refl _ | apply Ext.drew' | apply Ext.alloc'))).mono ?_; rintro e w8 ⟨A8, c8, B8, d8, rfl, hF8, hX8, h78⟩; obtain ⟨U8, V8, hS8, hD8⟩ := h78 (by have := HVK.out.2; have := HDB.out.2; omega); have hs8 := hX8.size; obtain ⟨z1, z2, z3, z4, -⟩ := keepB_set2 (b := 0) (heap_alloc_new w8 (.cells #[.slice none 0 0, .slice none 0 0] 26)) (.slice A8 (vD D L kind xs).length c8) (.slice B8 (vL D L kind xs).length d8); (try have x8 := (hX8.block (heap_lt x5)).trans x5); (try (have y8 := keepB_set2 (b := 0) x8 (.slice A8 (vD D L kind xs).length c8) (.slice B8 (vL D L kind xs).length d8); obtain ⟨t1, t2, t3, t4, -⟩ := y8)); (try have x9 : w8.heap[w5.heap.size]? = some (.cells #[.slice none 0 0, .slice none 0 0] 26 (0, 0)) := (hX8.block (by simp)).trans (alloc_at rfl)); (try (have y9 := keepB_set2 (b := 0) x9 (.slice A8 (vD D L kind xs).length c8) (.slice B8 (vL D L kind xs).length d8); obtain ⟨r1, r2, r3, r4, -⟩ := y9))))
        all_goals
          go_wp2_with fail
          go_meet
          case rel =>
            have hbud : u + 1 + 31 * (j : Int) + 30 ≤ u + 1 + 31 * ((j : Int) + 1) := by omega
            first
              | exact ⟨_, _, _, _, rfl, rfl, Lib.hid ⟨HVK.out.1, by have := HVK.out.2; have := HDB.out.2; omega⟩, Lib.hid (DkT.of (w7 := w5) (w8 := w8) HS.out hB HG5.out ((HR5.out _ (Ext.refl _)).le hbud) hX8 hS8 hD8 ⟨w8, Ext.refl _, x8, rfl⟩ ⟨Nat.le_refl _, .inl (heap_lt x5)⟩)⟩
              | exact ⟨_, _, _, _, rfl, rfl, Lib.hid ⟨HVK.out.1, by have := HVK.out.2; have := HDB.out.2; omega⟩, Lib.hid (DkT.of (w7 := w5.alloc _) (w8 := w8) HS.out hB (HG5.out.alloc _) ((HR5.out _ (Ext.alloc _ _)).le hbud) hX8 hS8 hD8 ⟨w8, Ext.refl _, x9, rfl⟩ ⟨hs5, .inl (by simp)⟩)⟩
              | exact ⟨_, _, _, _, rfl, rfl, Lib.hid ⟨HVK.out.1, by have := HVK.out.2; have := HDB.out.2; omega⟩, Lib.hid (DkT.of (w7 := w5) (w8 := w8) HS.out hB HG5.out ((HR5.out _ (Ext.refl _)).le hbud) hX8 hS8 hD8 ⟨_, Ext.alloc _ _, heap_alloc_new _ _, alloc_set2 _ _ _ _ _ _⟩ ⟨Nat.le_trans hs5 hs8, .inr (Nat.le_refl _)⟩)⟩
      case rest =>
        obtain ⟨m7, D', L', b, rfl, rfl, HDB', HT⟩ := hcut
        clear HS hK hb5 c00 c01
        cases b with
        | false =>
          go_wp2
          go_roundg g1
          case measure => omega
          case rel => exact ⟨j + 1, D, L, by omega, by go_num, Lib.hid ⟨HDB.out.1, by have := HDB.out.2; omega⟩, Lib.hid (HT.out.1.le (by omega))⟩
        | true =>
          obtain ⟨A7, c7, B7, d7, h7, hS7⟩ := HT.out.take hB
          have HS7 := Lib.hid hS7
          obtain ⟨A0, c0, B0, d0, hb0, -⟩ := HT.out.1.2.2.2.2
          obtain ⟨s0, s1⟩ := two_cells h7
          obtain ⟨t1, t2, t3, t4, -⟩ := keepB_set2 (b := 0) hb0 (.slice A7 D'.length c7) (.slice B7 L'.length d7)
          clear hS7 hb0 h7
          go_wp2
          go_roundg g1
          case measure => omega
          case rel => exact ⟨j + 1, D', L', by omega, by go_num, HDB', Lib.hid (HS7.out.le (by omega))⟩
    · obtain rfl : gk = 0 := by omega
      have hk0' : ¬ (0 : Int) < ((0 : Nat) : Int) := by omega
      obtain rfl : j = K := by omega
      clear hK hb5 c00 c01 hk0
      go_wp2_with fail
      refine (oddU HS.out.1 n (by omega) (by omega) (by omega)).mono ?_
      rintro e w4 ⟨od, rfl, hR4, hO4⟩
      have HS4 := Lib.hid ((HS.out.rd hO4.toG hR4 hB).le (u' := u + 248) (by omega))
      have HSM := Lib.hid (small_desk HDB.out.1)
      have hL7 : L.length ≤ 7 := by have := HDB.out.2; omega
      clear hR4 hO4 HS HDB
      go_upto_if 28 with fail
      go_cut [] (fun wx => ∃ D' L', Hid (SmallD D') ∧ Hid (DkS w B g m5 (u + 250) D' L' wx))
      case first =>
        cases od with
        | false =>
          go_wp2
          go_meet
          case rel => exact ⟨D, L, HSM, Lib.hid (HS4.out.le (by omega))⟩
        | true =>
          go_wp2_with fail
          refine (pickU HS4.out.1 3 (by omega) (by omega) (by omega)).mono ?_
          rintro e w5 ⟨v, rfl, v0, v1, hR5, hO5⟩
          have HS5 := Lib.hid (HS4.out.rd hO5.toG hR5 hB)
          obtain ⟨A, c, Bp, d, hb5, hK⟩ := HS5.out.2.2.2.2
          have HK := Lib.hid hK
          obtain ⟨c00, c01⟩ := two_cells hb5
          have f1 := frozen_cells hb5 1
          have m1 : ∀ x y, ((w5.alloc x).alloc y).cell? ⟨m5, 0, none⟩ = _ := fun x y => (two_cells ((((Ext.alloc w5 x).alloc' y).block (heap_lt hb5)).trans hb5)).1
          have m2 : ∀ x y, ((w5.alloc x).alloc y).frozen? ⟨m5, 0, none⟩ = _ := fun x y => frozen_cells ((((Ext.alloc w5 x).alloc' y).block (heap_lt hb5)).trans hb5) 0
          clear hR5 hO5 HS4 hK
          by_cases q0 : v = 0
          · subst q0
            go_wp2
            go_meet
            case rel => exact ⟨[[1]], L, Lib.hid ⟨by decide, fun i hi k hk => by have : i = 0 := (by simp at hi; exact hi); subst this; have : k = 0 := (by have : k < 1 := hk; omega); subst this; decide⟩, Lib.hid ((HS5.out.one 1 hB).le (by omega))⟩
          · have q0' : (v == 0) = false := beq_eq_false_iff_ne.2 q0
            by_cases q1 : v = 1
            · subst q1
              have HPU := Lib.hid (fun ty => DkS.push (P := Tryz.prog) (T := 24) (ty := ty) rfl Tryz.underlying24 infoM HS5.out hB hb5 HK.out hL7)
              clear hb5
              go_wp2_with (at_builtin; refine wpList_ex rfl _ _ rfl (.slice Bp L.length d) (.slice (some ⟨_, 0, none⟩) 1 1) rfl rfl (HPU.out _) ?_; rintro v6 w6 ⟨B6, d6, rfl, c6a, c6b, hS6⟩)
              go_meet
              case rel => exact ⟨D, L ++ [[]], HSM, Lib.hid (hS6.le (by omega))⟩
            · have q1' : (v == 1) = false := beq_eq_false_iff_ne.2 q1
              obtain ⟨t1, t2, t3, t4, t5, t6, -⟩ := keepB_set2 (b := 0) HS5.out.2.2.1 (.slice none 0 0) (.slice none 0 0)
              go_wp2
              refine bodyPost_ret (v := .agg #[.slice none 0 0, .slice none 0 0]) (by simp [results, Tryz.results14, go_sem, t5, t6]) rfl ?_
              exact ⟨none, 0, none, 0, [], [], rfl, fun W _ => ⟨Mat.nil W none 0 (by unfold maxLen; decide), (OwnS.nil 0 W (fun _ => .slice none 0 0) (fun _ _ => .slice none 0 0)).mats_of.2⟩, ⟨by decide, fun i hi => absurd hi (by simp)⟩, ((HS5.out.1.le (by omega)).set (p := ⟨w.heap.size, 0, none⟩) hB _).set (p := ⟨w.heap.size, 1, none⟩) hB _, (HS5.out.2.1.set (p := ⟨w.heap.size, 0, none⟩) (Nat.le_refl _) _).set (p := ⟨w.heap.size, 1, none⟩) (Nat.le_refl _) _⟩
      case rest =>
        obtain ⟨D', L', HSM', HS9⟩ := hcut
        obtain ⟨A, c, Bp, d, hb5, hK⟩ := HS9.out.2.2.2.2
        obtain ⟨c00, c01⟩ := two_cells hb5
        obtain ⟨t1, t2, t3, t4, t5, t6, -⟩ := keepB_set2 (b := 0) HS9.out.2.2.1 (.slice A D'.length c) (.slice Bp L'.length d)
        have HF := Lib.hid (HS9.out.done hB hK (.slice A D'.length c) (.slice Bp L'.length d))
        clear hK hb5 HS4
        go_wp2
        refine bodyPost_ret (v := .agg #[.slice A D'.length c, .slice Bp L'.length d]) (by simp [results, Tryz.results14, go_sem, t5, t6]) rfl ?_
        exact ⟨A, c, Bp, d, D', L', rfl, HF.out.1, HSM'.out, HF.out.2.1, HF.out.2.2⟩
end Go.Proofs.YtnalcgcdohlfiaaGreatDoor
