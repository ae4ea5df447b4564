/- What is proved: l20Deeds and DrawDeskRun (if l20Deed draws a deed). Conditions: those of each contract. -/
import Derived.Test.YtcejdgnfmcgopaaGreatDoorDrDo
import Derived.Test.YtcejdgnfmcgopaaGreatDoorDso
import Derived.Deep.DeepCutAuto
import Derived.Deep.RegionLaw
import Derived.Deep.CutBlock
namespace Go.Proofs.YtcejdgnfmcgopaaGreatDoor
open Go.RowKit
theorem KeepE.of_g {b g : Nat} {w w' : World} (h : ExtG g w w') (hg : g < b) : KeepE b w w' := fun q _ _ hq hh _ => h.2.2.2.2 q (heap_lt hh) (by omega)
/-- deeds drawn -/
def DrawnDs (w : World) (B g : Nat) (u : Int) (e : Ending) (w' : World) : Prop :=
  ∃ A c ds, e = .returned (.slice A (List.length ds) c) ∧ (∃ q, A = some ⟨q, 0, none⟩) ∧ From w.heap.size w' (fun W => DeedsM W A c ds) ∧ ds.length ≤ 5 ∧ (∀ i, i < ds.length → (0 ≤ dk ds i ∧ dk ds i ≤ 9) ∧ (dx ds i).length ≤ 8 ∧ ∀ j, j < (dx ds i).length → -1 ≤ ix (dx ds i) j ∧ ix (dx ds i) j ≤ 200) ∧ RdU w' B g u ∧ ExtG g w w'
/-- deeds drawn, with their leaves -/
def OwnsDs (w : World) (B g : Nat) (u : Int) (e : Ending) (w' : World) : Prop :=
  ∃ A c ds V, e = .returned (.slice A (List.length ds) c) ∧ OwnDs w.heap.size w' (.slice A ds.length c) ds V ∧ Value.slice A ds.length c ≠ .slice none 0 0 ∧ ds.length ≤ 5 ∧ (∀ i, i < ds.length → (0 ≤ dk ds i ∧ dk ds i ≤ 9) ∧ (dx ds i).length ≤ 8 ∧ ∀ j, j < (dx ds i).length → -1 ≤ ix (dx ds i) j ∧ ix (dx ds i) j ≤ 200) ∧ RdU w' B g u ∧ ExtG g w w'
theorem OwnDs.from_ {b : Nat} {w : World} {A : Option Addr} {n c : Nat} {ds : List (Int × List Int)} {V : Nat → Value} (h : OwnDs b w (.slice A n c) ds V) : n = ds.length ∧ From b w (fun W => DeedsM W A c ds) := by
  obtain ⟨A', c', e, -⟩ := h.deeds
  injection e with e1 e2 e3
  subst e1 e2 e3
  refine ⟨rfl, fun W hW => ?_⟩
  have hK : KeepE b w W := fun g cs t hb hg _ => hW g hb (heap_lt hg)
  obtain ⟨A2, c2, e4, h5⟩ := (h.keep hK).deeds
  injection e4 with e1 e2 e3
  subst e1 e3
  exact h5
/-- deeds under way: the desk in the block behind w, the deeds v -/
def DsS (w : World) (B g : Nat) (a b : Value) (u : Int) (ds : List (Int × List Int)) (v : Value) (W : World) : Prop :=
  RdU W B g u ∧ ExtG g w W ∧ W.heap[w.heap.size]? = some (.cells #[a, b] 26 (0, 0)) ∧ (∃ V, OwnDs w.heap.size W v ds V) ∧ v ≠ .slice none 0 0 ∧ (∀ i, i < ds.length → (0 ≤ dk ds i ∧ dk ds i ≤ 9) ∧ (dx ds i).length ≤ 8 ∧ ∀ j, j < (dx ds i).length → -1 ≤ ix (dx ds i) j ∧ ix (dx ds i) j ≤ 200)
theorem DsS.le {w W : World} {B g : Nat} {a b v : Value} {u u' : Int} {ds : List (Int × List Int)} (h : DsS w B g a b u ds v W) (k : u ≤ u') : DsS w B g a b u' ds v W := ⟨h.1.le k, h.2⟩
theorem DsS.rd {w W W' : World} {B g : Nat} {a b v : Value} {u u' : Int} {ds : List (Int × List Int)} (h : DsS w B g a b u ds v W) (hO : ExtG g W W') (hR : RdU W' B g u') (hB : B ≤ w.heap.size) : DsS w B g a b u' ds v W' := by
  obtain ⟨h1, h2, h3, ⟨V, h4⟩, h5⟩ := h
  have hg := hR.lt
  exact ⟨hR, h2.trans hO, (hO.2.2.2.2 _ (heap_lt h3) (by omega)).trans h3, ⟨V, h4.keep (KeepE.of_g hO (by omega))⟩, h5⟩
theorem DsS.ext {w W W' : World} {B g : Nat} {a b v : Value} {u : Int} {ds : List (Int × List Int)} (h : DsS w B g a b u ds v W) (k : Ext W W') (hB : B ≤ w.heap.size) : DsS w B g a b u ds v W' :=
  h.rd (k.toG g) (h.1.ext k (by have := h.2.1.size; omega)) hB
theorem DsS.start {w : World} {B g : Nat} {a b : Value} {u : Int} (hR : RdU w B g u) (hB : B ≤ w.heap.size) : DsS w B g a b u [] (.slice (some ⟨w.heap.size + 1, 0, none⟩) 0 0) ((w.alloc (.cells #[a, b] 26)).alloc (.cells #[] 56)) := by
  have hx : Ext w ((w.alloc (.cells #[a, b] 26)).alloc (.cells #[] 56)) := (Ext.alloc _ _).alloc' _
  have hm := OwnDs.made (base := w.heap.size) (W := w.alloc (.cells #[a, b] 26)) (by simp) (fun _ => .slice none 0 0)
  rw [show (w.alloc (.cells #[a, b] 26)).heap.size = w.heap.size + 1 by simp] at hm
  exact ⟨hR.ext hx hB, hx.toG g, ((Ext.alloc (w.alloc (.cells #[a, b] 26)) _).block (by simp)).trans (heap_alloc_new w _), ⟨_, hm⟩, by simp, fun i hi => absurd hi (by simp)⟩
theorem DsS.len {w W : World} {B g : Nat} {a b v : Value} {u : Int} {ds : List (Int × List Int)} (h : DsS w B g a b u ds v W) : ∃ A c, v = .slice A ds.length c := by
  obtain ⟨-, -, -, ⟨V, h4⟩, -⟩ := h
  obtain ⟨A, c, e, -⟩ := h4.deeds
  exact ⟨A, c, e⟩
theorem DsS.push {P : Program} {w wr w5 : World} {B g : Nat} {a b v : Value} {u u' kind : Int} {ds : List (Int × List Int)} {T E ty : TypeId} (hE : E = 56) (ht : P.underlying T = some (.slice E)) (hinfo : (P.info? E).map (fun i => (i.zero, i.size, i.bytes)) = some (some (.agg #[.int .i64 0, .slice none 0 0]), 2, 32))
    (h : DsS w B g a b u ds v wr) (hB : B ≤ w.heap.size) {A5 : Option Addr} {n5 c5 : Nat} {xs : List Int} (hO : OwnI wr.heap.size w5 (.slice A5 n5 c5) xs) (hk : 0 ≤ kind ∧ kind ≤ 9) (hx : xs.length ≤ 8) (hxb : ∀ j, j < xs.length → -1 ≤ ix xs j ∧ ix xs j ≤ 200) (hR5 : RdU w5 B g u') (hG : ExtG g wr w5) (hl : ds.length ≤ 1000) :
    ∃ v' w', (Builtin.append_ #[T, T] ty #[v, .slice (some ⟨w5.heap.size, 0, none⟩) 1 1]).run P (w5.alloc (.cells #[.int .i64 kind, .slice A5 n5 c5] E)) = .ok v' w' ∧ DsS w B g a b u' (ds ++ [(kind, xs)]) v' w' := by
  subst hE
  obtain ⟨V0, hV0⟩ := h.2.2.2.1
  obtain ⟨h1, h2, h3, ⟨V, h4⟩, h9, h5⟩ := (h.rd hG hR5 hB).ext (Ext.alloc w5 (.cells #[.int .i64 kind, .slice A5 n5 c5] 56)) hB
  have hg := hR5.lt
  have hV : OwnDs w.heap.size (w5.alloc (.cells #[.int .i64 kind, .slice A5 n5 c5] 56)) v ds V0 := (hV0.keep (KeepE.of_g hG (by omega))).keep (KeepE.of_ext (Ext.alloc _ _))
  have hb := heap_alloc_new w5 (.cells #[.int .i64 kind, .slice A5 n5 c5] 56)
  have hs := h.2.1.size
  have hs2 := h2.size
  obtain ⟨v', w', hr, g2, g3, -, g6⟩ := hV.push (P := P) (T := T) (ty := ty) rfl ht hinfo (kind := kind) (u := .slice A5 n5 c5) (xs := xs) (hO.leaf.1.ext (Ext.alloc _ _)) (fun q hq => Nat.le_trans hs (hO.leaf.2 q hq)) (fun i hi q hq hq2 => by
    have h6 := hO.leaf.2 q hq
    have h7 := (hV0.2.1 i hi).lt hq2
    omega) ⟨w5.heap.size, 0, none⟩ 1 (by show World.cell? _ ⟨w5.heap.size, 0 + 0, none⟩ = _; rw [cell_cells hb]; rfl) (by show World.cell? _ ⟨w5.heap.size, 0 + 1, none⟩ = _; rw [cell_cells hb]; rfl) (by omega) (by omega)
  have hown : ∀ k, v.ownBlock = some k → w.heap.size ≤ k := fun k hk => (hV.1.lt k hk).1
  have hkb : ∀ k, k < w.heap.size → w'.heap[k]? = (w5.alloc (.cells #[.int .i64 kind, .slice A5 n5 c5] 56)).heap[k]? := fun k hk => g3.block k (by omega) fun e => by have := hown k e.symm; omega
  refine ⟨v', w', hr, h1.keep fun k hk => hkb k (by omega), ⟨g3.os.trans h2.1, g3.tape.trans h2.2.1, g3.output.trans h2.2.2.1, Nat.le_trans hs2 g3.size, fun k k1 k2 => (hkb k k1).trans (h2.2.2.2.2 k k1 k2)⟩, ?_, ⟨_, g2⟩, g6, fun i hi => ?_⟩
  · refine (g3.block _ (heap_lt h3) fun e => ?_).trans h3
    rcases hV.1.2 with ⟨e0, _⟩ | ⟨g', cap, cur, e1, _, e3, _⟩
    · rw [e0] at e; simp [Value.ownBlock] at e
    · rw [e1] at e
      simp [Value.ownBlock] at e
      subst e
      rw [h3] at e3
      injection e3 with e3
      injection e3 with _ e3
      exact absurd e3 (by decide)
  · rw [List.length_append, List.length_singleton] at hi
    by_cases q : i = ds.length
    · subst q
      rw [dk_last.1, dk_last.2]
      exact ⟨hk, hx, hxb⟩
    · rw [(dk_app (by omega)).1, (dk_app (by omega)).2]
      exact h5 i (by omega)
set_option maxRecDepth 100000 in
set_option maxHeartbeats 8000000 in
theorem l20Deeds_own (hDeed : DeedAny) {w : World} {B g : Nat} {u : Int} (hR : RdU w B g u) (hB : B ≤ w.heap.size) (hu : u ≤ 100000) (A : Option Addr) (c : Nat) (D : List (List Int)) (p2 : Value) (h : Under w.heap.size g w A c D) (hs : SmallD D) (hp : p2.oneCell' = true) :
    Calls Tryz.prog 79 #[.pointer (some ⟨g, 0, none⟩), .agg #[.slice A D.length c, p2]] w (OwnsDs w B g (u + 160)) := by
  have hg := hR.lt
  have HR := Lib.hid hR
  have HU := Lib.hid h
  have HSM := Lib.hid hs
  have HP := Lib.hid hp
  clear hR h hs hp
  go_enter Tryz.func79, Tryz.ntmps79
  go_wp2_with fail
  have HD1 := Lib.hid (DsS.start (a := .slice A D.length c) (b := p2) HR.out hB)
  refine (pickU HD1.out.1 6 (by omega) (by omega) (by omega)).mono ?_
  rintro e w2 ⟨K, rfl, K0, K1, hR2, hO2⟩
  have HD2 := Lib.hid (HD1.out.rd hO2.toG hR2 hB)
  obtain ⟨K, rfl⟩ : ∃ n : Nat, K = (n : Int) := ⟨K.toNat, by omega⟩
  have hK5 : K ≤ 5 := by omega
  have HUN := Lib.hid (fun W (q : ExtG g w W) => (fun W' hW => HU.out W' (fun k k1 k2 => (hW k (by have := q.size; omega) k2).trans (q.2.2.2.2 k k1 k2)) : Under W.heap.size g W A c D))
  clear HD1 hO2 hR2 K0 K1 HR
  go_wp2_with fail
  go_loopg [6, 5] K (fun gm s6 s5 wr => ∃ (j : Nat) (ds : List (Int × List Int)) (v : Value), j + gm = K ∧ s6 = .int .i64 gm ∧ s5 = v ∧ Hid (List.length ds = j) ∧ Hid (DsS w B g (.slice A D.length c) p2 (u + 1 + 30 * j) ds v wr))
  case atStart => exact ⟨0, [], _, by omega, rfl, rfl, Lib.hid rfl, Lib.hid (HD2.out.le (by omega))⟩
  case round =>
    clear HD2
    obtain ⟨j, ds, v, hj, rfl, rfl, HL, HS⟩ := hrel
    obtain ⟨p0, p1⟩ := two_cells HS.out.2.2.1
    by_cases hk0 : 0 < gk
    · obtain ⟨g1, rfl⟩ : ∃ g', gk = g' + 1 := ⟨gk - 1, by omega⟩
      have hk0' : (0 : Int) < ((g1 + 1 : Nat) : Int) := by omega
      have HC := Lib.hid (hDeed wr B g _ HS.out.1 (by have := HS.out.2.1.size; omega) (by omega) A c D p2 (HUN.out _ HS.out.2.1) HSM.out.1 HSM.out.2 HP.out)
      obtain ⟨A9, c9, rfl⟩ := HS.out.len
      go_wp2_with fail
      refine HC.out.mono ?_
      rintro e w5 ⟨kd, A5, c5, xs, rfl, hO5, hk5, hx5, hb5, hR5, hG5⟩
      have HPU := Lib.hid (HS.out.push (P := Tryz.prog) (T := 47) (E := 56) (ty := 47) rfl Tryz.underlying47 infoDeed hB hO5 hk5 hx5 hb5 hR5 hG5 (by have := HL.out; omega))
      clear HS HC p0 p1 hO5 hR5 hG5 hb5
      go_wp2_with (at_builtin; go_loud (refine wpList_ex rfl _ _ rfl _ (.slice (some ⟨_, 0, none⟩) 1 1) rfl rfl HPU.out ?_; rintro v6 w6 hS6))
      go_roundg g1
      case measure => omega
      case rel => exact ⟨j + 1, _, _, by omega, by go_num, rfl, Lib.hid (by rw [List.length_append, HL.out]; rfl), Lib.hid (hS6.le (by omega))⟩
    · obtain rfl : gk = 0 := by omega
      have hk0' : ¬ (0 : Int) < ((0 : Nat) : Int) := by omega
      obtain ⟨A9, c9, rfl⟩ := HS.out.len
      obtain ⟨V, hV⟩ := HS.out.2.2.2.1
      have HV := Lib.hid hV
      clear hV
      go_wp2
      go_ret
      exact ⟨A9, c9, ds, V, rfl, HV.out, HS.out.2.2.2.2.1, by have := HL.out; omega, HS.out.2.2.2.2.2, HS.out.1.le (by omega), HS.out.2.1⟩
theorem l20Deeds_any (hDeed : DeedAny) {w : World} {B g : Nat} {u : Int} (hR : RdU w B g u) (hB : B ≤ w.heap.size) (hu : u ≤ 100000) (A : Option Addr) (c : Nat) (D : List (List Int)) (p2 : Value) (h : Under w.heap.size g w A c D) (hs : SmallD D) (hp : p2.oneCell' = true) :
    Calls Tryz.prog 79 #[.pointer (some ⟨g, 0, none⟩), .agg #[.slice A D.length c, p2]] w (DrawnDs w B g (u + 160)) := by
  refine (l20Deeds_own hDeed hR hB hu A c D p2 h hs hp).mono ?_
  rintro e w' ⟨A9, c9, ds, V, rfl, hV, hne, h1, h2, h3, h4⟩
  exact ⟨A9, c9, ds, rfl, hV.real hne, hV.from_.2, h1, h2, h3, h4⟩
/-- a desk drawn in block m5, the result's block with what stands in it -/
def JJ (w : World) (B g m5 : Nat) (A : Option Addr) (c : Nat) (Bp : Option Addr) (d : Nat) (D : List (List Int)) (L : List (List (List Int))) (x y : Value) (W : World) : Prop :=
  (Ext w W ∧ w.heap.size < g ∧ w.heap.size + 1 ≤ B ∧ B ≤ m5 ∧ B ≤ W.heap.size ∧ g < B) ∧ From B W (fun W => Mat W A c D ∧ MatS W Bp d L) ∧ W.heap[m5]? = some (.cells #[.slice A D.length c, .slice Bp L.length d] 26 (0, 0)) ∧
    W.heap[w.heap.size]? = some (.cells #[x, y] 26 (0, 0))
section
variable {w W W' : World} {B g m5 : Nat} {A : Option Addr} {c : Nat} {Bp : Option Addr} {d : Nat} {D : List (List Int)} {L : List (List (List Int))} {u : Int} {x y : Value}
theorem JJ.drew (h : JJ w B g m5 A c Bp d D L x y W) : JJ w B g m5 A c Bp d D L x y W.drew := ⟨⟨h.1.1.drew', h.1.2⟩, h.2⟩
theorem JJ.s2 (h : JJ w B g m5 A c Bp d D L x y W) (a b : Value) : JJ w B g m5 A c Bp d D L a b ((W.setCell ⟨w.heap.size, 0, none⟩ a).setCell ⟨w.heap.size, 1, none⟩ b) := by
  obtain ⟨⟨h1, h2, h3, h4, h5, h6⟩, hF, h7, h8⟩ := h
  exact ⟨⟨(h1.setCell' (p := ⟨w.heap.size, 0, none⟩) (Nat.le_refl _) _).setCell' (p := ⟨w.heap.size, 1, none⟩) (Nat.le_refl _) _, h2, h3, h4, by simpa [World.setCell] using h5, h6⟩,
    (hF.set (p := ⟨w.heap.size, 0, none⟩) (by show w.heap.size < B; omega) _).set (p := ⟨w.heap.size, 1, none⟩) (by show w.heap.size < B; omega) _,
    set_far (set_far h7 (by show m5 ≠ w.heap.size; omega)) (by show m5 ≠ w.heap.size; omega), set_1 (set_0 h8)⟩
theorem JJ.rd (h : JJ w B g m5 A c Bp d D L x y W) (k : ExtG g W W') : JJ w B g m5 A c Bp d D L x y W' := by
  obtain ⟨⟨h1, h2, h3, h4, h5, h6⟩, hF, h7, h8⟩ := h
  exact ⟨⟨k.ext h1 (by omega), h2, h3, h4, by have := k.size; omega, h6⟩, hF.g k h6, (k.2.2.2.2 _ (heap_lt h7) (by omega)).trans h7, (k.2.2.2.2 _ (heap_lt h8) (by omega)).trans h8⟩
theorem JJ.alloc (h : JJ w B g m5 A c Bp d D L x y W) (o : Obj) : JJ w B g m5 A c Bp d D L x y (W.alloc o) := h.rd ((Ext.alloc W o).toG g)
theorem JJ.under (h : JJ w B g m5 A c Bp d D L x y W) : Under W.heap.size g W A c D := fun W' hW => (h.2.1 W' fun k k1 k2 => hW k k2 (by have := h.1.2.2.2.2.2; omega)).1
end
/-- what DrawDeskRun hands back -/
def DrawnRun (w : World) (e : Ending) (w' : World) : Prop :=
  ∃ A c Bp d D L X cx ds, e = .returned (.tuple #[.agg #[.slice A (List.length D) c, .slice Bp (List.length L) d], .slice X (List.length ds) cx]) ∧ Mat w' A c D ∧ MatS w' Bp d L ∧ DeedsM w' X cx ds ∧ (∃ q, X = some ⟨q, 0, none⟩) ∧ ds.length ≤ 41 ∧ Ext w w'
theorem zero_deeds (w W : World) (n : Nat) (hn : n ≤ 1000) (hb : W.heap[w.heap.size]? = some (.cells (madeCells #[.int .i64 0, .slice none 0 0] (n * 2)) 56 (0, 0))) : DeedsM W (some ⟨w.heap.size, 0, none⟩) n (List.replicate n (0, [])) := by
  refine ⟨by rw [List.length_replicate]; exact Nat.le_refl _, by unfold maxLen; omega, w.heap.size, 0, fun _ => rfl, fun i hi => ?_⟩
  rw [List.length_replicate] at hi
  have e1 : dk (List.replicate n ((0 : Int), ([] : List Int))) i = 0 ∧ dx (List.replicate n ((0 : Int), ([] : List Int))) i = [] := by
    unfold dk dx
    simp [List.getD_eq_getElem?_getD, hi]
  rw [e1.1, e1.2]
  have m0 : (i * 2) % 2 = 0 := by omega
  have m1 : (i * 2 + 1) % 2 = 1 := by omega
  have l0 : i * 2 < n * 2 := by omega
  have l1 : i * 2 + 1 < n * 2 := by omega
  refine ⟨none, 0, ?_, ?_, Ints.nil _ _ _ (Nat.zero_le _)⟩
  · rw [cell_cells hb, Nat.zero_add]
    simp [madeCells, l0, m0]
  · rw [cell_cells hb, Nat.zero_add]
    simp [madeCells, l1, m1]
set_option maxRecDepth 100000 in
set_option maxHeartbeats 8000000 in
theorem drawDeskRun_any (hDeed : DeedAny) (A : Option Addr) (n c : Nat) (w : World) (h : Byt w A n c) :
    Calls Tryz.prog 32 #[.slice A n c] w (DrawnRun w) := by
  have HB := Lib.hid (fun W (q : Ext w W) => h.ext q)
  go_enter Tryz.func32, Tryz.ntmps32
  go_wp2_with fail
  refine (open_any A n c _ (HB.out _ (Ext.alloc _ _))).mono ?_
  rintro e w1 ⟨g, rfl, hx1, hg, hR⟩
  have HR := Lib.hid hR
  clear hR
  go_wp2_with fail
  refine (l20Desk_any hDeed HR.out (Nat.le_refl _) (by omega) 12 (by omega) (by omega)).mono ?_
  rintro e w2 ⟨A', c', Bp, d, D, L, rfl, hF, hS, hR2, hX2⟩
  obtain ⟨b0, hx⟩ : w1.heap[w.heap.size]? = some (.cells #[.slice none 0 0, .slice none 0 0] 26 (0, 0)) ∧ Ext w w1 := ⟨(hx1.block (by simp)).trans (heap_alloc_new w _), (Ext.alloc _ _).trans hx1⟩
  have hlt := HR.out.lt
  have hs1 := hx1.size
  have hsg : w.heap.size + 1 ≤ g := by simp at hg; omega
  have hsz : w.heap.size + 1 ≤ w1.heap.size := by simp at hs1; omega
  have hX3 : ExtG g w1 (w2.alloc (.cells #[.slice A' D.length c', .slice Bp L.length d] 26)) := hX2.alloc _
  have K0 : JJ w w1.heap.size g w2.heap.size A' c' Bp d D L (.slice none 0 0) (.slice none 0 0) (w2.alloc (.cells #[.slice A' D.length c', .slice Bp L.length d] 26)) := by
    have hs2 := hX2.size
    exact ⟨⟨hX3.ext hx (by omega), by omega, hsz, hs2, hX3.size, hlt⟩, hF.ext (Ext.alloc _ _), heap_alloc_new w2 _, (hX3.2.2.2.2 _ (by omega) (by omega)).trans b0⟩
  have R0 : RdU (w2.alloc (.cells #[.slice A' D.length c', .slice Bp L.length d] 26)) w1.heap.size g (0 + 250) := hR2.ext (Ext.alloc _ _) hX2.size
  have HK0 := Lib.hid K0
  have HR0 := Lib.hid R0
  clear hR2 hX2 hX3 hx1 hx HR HB h b0 hlt hsg hsz hg hs1 K0 R0 hF
  go_wp2_with fail
  refine (oddU HR0.out 30 (by omega) (by omega) (by omega)).mono ?_
  rintro e w3 ⟨od, rfl, hR3, hO3⟩
  have K3 := HK0.out.rd hO3.toG
  have K3d := K3.drew
  obtain ⟨x0, x1⟩ := two_cells K3.2.2.1
  obtain ⟨y0, y1, y2, y3⟩ := two_set K3.2.2.2 (.slice A' D.length c') (.slice Bp L.length d)
  have HK3 := Lib.hid K3
  have HR3 := Lib.hid hR3
  have HSM := Lib.hid hS
  clear K3d hO3 hS K3 hR3
  cases od with
  | true =>
    have hmk : ∀ w : World, (Instr.makeSlice 47 (.int .i64 41) (.int .i64 41)).run Tryz.prog w = .ok (.slice (some ⟨w.heap.size, 0, none⟩) 41 41) (w.alloc (.cells (madeCells #[.int .i64 0, .slice none 0 0] (41 * 2)) 56)) := fun _ => by kernel_rfl
    have q0 : ∀ o, (w3.alloc o).cell? ⟨w2.heap.size, 0, none⟩ = some _ := fun o => (two_cells (HK3.out.alloc o).2.2.1).1
    have q1 : ∀ o, (w3.alloc o).cell? ⟨w2.heap.size, 1, none⟩ = some _ := fun o => (two_cells (HK3.out.alloc o).2.2.1).2
    have z0 : ∀ o, (w3.alloc o).cell? ⟨w.heap.size, 0, none⟩ = some _ := fun o => (two_set (HK3.out.alloc o).2.2.2 (.slice A' D.length c') (.slice Bp L.length d)).1
    have z1 : ∀ o, (w3.alloc o).frozen? ⟨w.heap.size, 0, none⟩ = false := fun o => (two_set (HK3.out.alloc o).2.2.2 (.slice A' D.length c') (.slice Bp L.length d)).2.1
    have z2 : ∀ o, ((w3.alloc o).setCell ⟨w.heap.size, 0, none⟩ (.slice A' D.length c')).cell? ⟨w.heap.size, 1, none⟩ = some _ := fun o => (two_set (HK3.out.alloc o).2.2.2 (.slice A' D.length c') (.slice Bp L.length d)).2.2.1
    have z3 : ∀ o, ((w3.alloc o).setCell ⟨w.heap.size, 0, none⟩ (.slice A' D.length c')).frozen? ⟨w.heap.size, 1, none⟩ = false := fun o => (two_set (HK3.out.alloc o).2.2.2 (.slice A' D.length c') (.slice Bp L.length d)).2.2.2
    go_wp2_with fail
    go_region_law (fail)
    all_goals
      go_wp2
      go_simp
      have hw3 := HK3.out.1.2.2.2.2.1
      have hwb := HK3.out.1.2.2.1
      (first
        | (have KF := ((HK3.out.alloc (.cells (madeCells #[.int .i64 0, .slice none 0 0] 82) 56)).s2 (.slice A' D.length c') (.slice Bp L.length d)).drew; have hz := zero_deeds w3 _ 41 (by omega) (set_far (u := .slice Bp L.length d) (p := ⟨w.heap.size, 1, none⟩) (set_far (u := .slice A' D.length c') (p := ⟨w.heap.size, 0, none⟩) (heap_alloc_new w3 _) (by show w3.heap.size ≠ w.heap.size; omega)) (by show w3.heap.size ≠ w.heap.size; omega)); obtain ⟨t5, t6⟩ := two_cells KF.2.2.2; refine bodyPost_ret (v := .tuple #[.agg #[.slice A' D.length c', .slice Bp L.length d], .slice (some ⟨w3.heap.size, 0, none⟩) 41 41]) (by simp [results, Tryz.results32, go_sem, t5, t6]) rfl ?_; exact ⟨A', c', Bp, d, D, L, _, 41, List.replicate 41 (0, []), by rw [List.length_replicate], KF.2.1.now.1, KF.2.1.now.2, hz, ⟨_, rfl⟩, by rw [List.length_replicate]; exact Nat.le_refl _, KF.1.1⟩)
        | (have KF := ((HK3.out.s2 (.slice A' D.length c') (.slice Bp L.length d)).alloc (.cells (madeCells #[.int .i64 0, .slice none 0 0] 82) 56)).drew; have hz := zero_deeds w3 (((w3.setCell ⟨w.heap.size, 0, none⟩ (.slice A' D.length c')).setCell ⟨w.heap.size, 1, none⟩ (.slice Bp L.length d)).alloc (.cells (madeCells #[.int .i64 0, .slice none 0 0] (41 * 2)) 56)) 41 (by omega) (alloc_at (by simp [World.setCell])); obtain ⟨t5, t6⟩ := two_cells KF.2.2.2; refine bodyPost_ret (v := .tuple #[.agg #[.slice A' D.length c', .slice Bp L.length d], .slice (some ⟨w3.heap.size, 0, none⟩) 41 41]) (by simp [results, Tryz.results32, go_sem, t5, t6]) rfl ?_; exact ⟨A', c', Bp, d, D, L, _, 41, List.replicate 41 (0, []), by rw [List.length_replicate], KF.2.1.now.1, KF.2.1.now.2, hz, ⟨_, rfl⟩, by rw [List.length_replicate]; exact Nat.le_refl _, KF.1.1⟩))
  | false =>
    have HK4 := Lib.hid HK3.out.drew
    have HR4 : RdU w3.drew w1.heap.size g (0 + 250 + 1) := HR3.out
    have HR5 := RdU.s2 HR4 HK4.out.2.2.2 (by have := HK4.out.1.2.1; omega) (by intro k; simp) (by intro k; simp) (.slice A' D.length c') (.slice Bp L.length d)
    have K5 := HK4.out.s2 (.slice A' D.length c') (.slice Bp L.length d)
    have HC := Lib.hid (l20Deeds_any hDeed HR4 HK4.out.1.2.2.2.2.1 (by omega) A' c' D (.slice Bp L.length d) HK4.out.under HSM.out rfl)
    have HC2 := Lib.hid (l20Deeds_any hDeed HR5 K5.1.2.2.2.2.1 (by omega) A' c' D (.slice Bp L.length d) K5.under HSM.out rfl)
    have HK5 := Lib.hid K5
    clear K5 HR4 HR5
    go_wp2_with fail
    go_region_law (go_simp; go_at_call 79; (fail_if_success (have q := hG5)); (first | with_reducible refine (HC.out).mono ?_ | with_reducible refine (HC2.out).mono ?_); rintro e w5 ⟨X, cx, ds, rfl, ⟨qX, rfl⟩, hF5, hl5, -, hR5, hG5⟩; (first | (have K6 := Lib.hid (HK4.out.rd hG5)) | (have K6 := Lib.hid (HK5.out.rd hG5))); have HF5 := Lib.hid hF5; obtain ⟨z0, z1⟩ := two_cells K6.out.2.2.1; obtain ⟨a1, a2, a3, a4⟩ := two_set K6.out.2.2.2 (.slice A' D.length c') (.slice Bp L.length d); clear hF5)
    all_goals
      go_wp2
      go_simp
      have hwb := HK4.out.1.2.2.1
      have hF6 := HF5.out.low (b' := w1.heap.size) (by first | exact HK4.out.1.2.2.2.2.1 | exact HK5.out.1.2.2.2.2.1)
      (first
        | (have KF := K6.out.s2 (.slice A' D.length c') (.slice Bp L.length d); have hF7 := (hF6.set (p := ⟨w.heap.size, 0, none⟩) (by show w.heap.size < w1.heap.size; omega) (.slice A' D.length c')).set (p := ⟨w.heap.size, 1, none⟩) (by show w.heap.size < w1.heap.size; omega) (.slice Bp L.length d); obtain ⟨t5, t6⟩ := two_cells KF.2.2.2; refine bodyPost_ret (v := .tuple #[.agg #[.slice A' D.length c', .slice Bp L.length d], .slice (some ⟨qX, 0, none⟩) ds.length cx]) (by simp [results, Tryz.results32, go_sem, t5, t6]) rfl ?_; exact ⟨A', c', Bp, d, D, L, _, cx, ds, rfl, KF.2.1.now.1, KF.2.1.now.2, hF7.now, ⟨_, rfl⟩, by omega, KF.1.1⟩)
        | (have KF := K6.out; obtain ⟨t5, t6⟩ := two_cells KF.2.2.2; refine bodyPost_ret (v := .tuple #[.agg #[.slice A' D.length c', .slice Bp L.length d], .slice (some ⟨qX, 0, none⟩) ds.length cx]) (by simp [results, Tryz.results32, go_sem, t5, t6]) rfl ?_; exact ⟨A', c', Bp, d, D, L, _, cx, ds, rfl, KF.2.1.now.1, KF.2.1.now.2, hF6.now, ⟨_, rfl⟩, by omega, KF.1.1⟩))
end Go.Proofs.YtcejdgnfmcgopaaGreatDoor
