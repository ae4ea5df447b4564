/- What is proved: copies of desks (impl.copyDesk, spec.l11Copy) are desks of one's own. Conditions: those of each contract. -/
import Derived.Test.YtbkefojepelggaaDk3
import Derived.Deep.RegionLaw
namespace Go.Proofs.Ytbkefojepelggaa
open Go.RowKit
def SmM (D : List (List Int)) : Prop := D.length ≤ 1000 ∧ ∀ i, i < D.length → (row D i).length ≤ 1000
def SmD (D : List (List Int)) (L : List (List (List Int))) : Prop := SmM D ∧ L.length ≤ 100 ∧ ∀ i, i < L.length → SmM (nth L i)
def CopyD (w : World) (D : List (List Int)) (L : List (List (List Int))) (e : Ending) (w' : World) : Prop := ∃ v, e = .returned v ∧ OwnDk w.heap.size w' v D L ∧ Ext w w'
theorem take_nth {L : List (List (List Int))} {i : Nat} (h : i < L.length) : L.take (i + 1) = L.take i ++ [nth L i] := by
  rw [List.take_succ_eq_append_getElem h, nth_of h]
/-- the copying under way: m1 the argument, m2 the result, m3 the copy -/
def CdS (w : World) (m1 m2 m3 : Nat) (a b : Value) (v1 : Value) (D : List (List Int)) (L : List (List (List Int))) (k : Nat) (vk : Value) (W : World) : Prop :=
  Ext w W ∧ w.heap.size ≤ m1 ∧ m1 < m2 ∧ m2 < m3 ∧ W.heap[m1]? = some (.cells #[a, b] 26 (0, 0)) ∧ W.heap[m2]? = some (.cells #[.slice none 0 0, .slice none 0 0] 26 (0, 0)) ∧ W.heap[m3]? = some (.cells #[v1, vk] 26 (0, 0)) ∧
    ∃ Z U V, OwnM w.heap.size W v1 D Z ∧ OwnS w.heap.size W vk (L.take k) U V ∧ ∀ p, p < D.length → ∀ j, j < (L.take k).length → ∀ q, q < (nth (L.take k) j).length → ∀ g ∈ lb (Z p), g ∉ lb (V j q)
theorem CdS.push {P : Program} {w : World} {m1 m2 m3 : Nat} {a b v1 vk : Value} {D : List (List Int)} {L : List (List (List Int))} {k : Nat} {wr W : World} {T E ty : TypeId} (hE : E = 23)
    (ht : P.underlying T = some (.slice E)) (hinfo : (P.info? E).map (fun i => (i.zero, i.size, i.bytes)) = some (some (.slice none 0 0), 1, 24)) {u : Value} {c : Nat}
    (h : CdS w m1 m2 m3 a b v1 D L k vk wr) (hk : k < L.length) (hl : L.length ≤ 100) (hA : AccR wr W u (nth L k)) :
    ∃ v' w', (Builtin.append_ #[T, T] ty #[vk, .slice (some ⟨W.heap.size, 0, none⟩) 1 c]).run P (W.alloc (.cells #[u] E)) = .ok v' w' ∧
      ∃ A c', v' = .slice A (k + 1) c' ∧ w'.cell? ⟨m3, 1, none⟩ = some vk ∧ w'.frozen? ⟨m3, 1, none⟩ = false ∧ CdS w m1 m2 m3 a b v1 D L (k + 1) v' (w'.setCell ⟨m3, 1, none⟩ v') := by
  obtain ⟨hx, g1, g2, g3, b1, b2, b3, Z, U, V, hM, hS, hcr⟩ := h
  obtain ⟨Y, hY⟩ := hA
  have hxW : Ext wr (W.alloc (.cells #[u] E)) := hY.x.trans (Ext.alloc _ _)
  have kb := KeepB.of_ext (b := w.heap.size) hxW
  have hYo : OwnM w.heap.size (W.alloc (.cells #[u] E)) u (nth L k) Y := (hY.own.keep (KeepB.of_ext (Ext.alloc _ _))).low hx.size
  have hYge := hY.2.2.2
  have hlt3 := heap_lt b3
  obtain ⟨v', w', hrun, hx', hS', hsz, hkeep, -⟩ := ownS_push (w0 := w) (ty := ty) hE ht hinfo (ad := ⟨W.heap.size, 0, none⟩) (c := c) rfl (cell_new0 W u E) (hx.trans hxW) (hS.keep kb) hYo (fun p hp j hj q hq g hg hg' => by
    have := hYge p hp g hg
    have := (hS.2.1 j hj).lt hq hg'
    omega) (by rw [List.length_take]; omega)
  obtain ⟨A, c', hv, -⟩ := hS'.mats
  have hlen : (L.take k ++ [nth L k]).length = k + 1 := by rw [List.length_append, List.length_take, List.length_singleton]; omega
  rw [hlen] at hv
  have c1 := (hkeep m1 _ _ _ ((hxW.block (heap_lt b1)).trans b1) (by decide)).trans ((hxW.block (heap_lt b1)).trans b1)
  have c2 := (hkeep m2 _ _ _ ((hxW.block (heap_lt b2)).trans b2) (by decide)).trans ((hxW.block (heap_lt b2)).trans b2)
  have c3 := (hkeep m3 _ _ _ ((hxW.block (heap_lt b3)).trans b3) (by decide)).trans ((hxW.block (heap_lt b3)).trans b3)
  have ks : KeepB w.heap.size w' (w'.setCell ⟨m3, 1, none⟩ v') := KeepB.set (p := ⟨m3, 1, none⟩) c3 (by decide) _
  have hM' : OwnM w.heap.size w' v1 D Z := (hM.keep kb).keepR fun g cs t _ hg ht => hkeep g cs t _ hg (by rcases ht with h | h <;> (rw [h]; decide))
  refine ⟨v', w', hrun, A, c', hv, by rw [cell_cells c3]; rfl, frozen_cells c3 1, hx'.setCell' (by show w.heap.size ≤ m3; omega) _, g1, g2, g3, ?_, ?_, set_1 c3, Z, _, _, hM'.keep ks, by rw [take_nth hk]; exact hS'.keep ks, fun p hp j hj q hq g hg hg' => ?_⟩
  · rw [Below.heap_setCell _ _ _ _ (by show m1 ≠ m3; omega)]; exact c1
  · rw [Below.heap_setCell _ _ _ _ (by show m2 ≠ m3; omega)]; exact c2
  · rw [take_nth hk] at hj hq
    rw [hlen] at hj
    rw [nth_app] at hq
    have hlt : (L.take k).length = k := by rw [List.length_take]; omega
    rw [hlt] at hq hg'
    by_cases e : j = k
    · simp only [if_pos e] at hg' hq
      have := hYge q hq g hg'
      have := hM.lt hp hg
      omega
    · simp only [if_neg e] at hg' hq
      exact hcr p hp j (by rw [hlt]; omega) q hq g hg hg'
theorem two_blocks {w w1 : World} {o1 o2 : Obj} (h : Ext ((w.alloc o1).alloc o2) w1) : w1.heap[w.heap.size]? = some o1 ∧ w1.heap[w.heap.size + 1]? = some o2 ∧ Ext w w1 ∧ w.heap.size + 2 ≤ w1.heap.size := by
  have s1 : (w.alloc o1).heap.size = w.heap.size + 1 := by simp
  have s2 : ((w.alloc o1).alloc o2).heap.size = w.heap.size + 2 := by simp
  refine ⟨?_, ?_, ((Ext.alloc w o1).trans (Ext.alloc _ _)).trans h, by have := h.size; omega⟩
  · rw [h.block (by omega), Below.heap_alloc (w.alloc o1) _ _ (by omega)]; exact heap_alloc_new w _
  · rw [h.block (by omega), ← s1]; exact heap_alloc_new (w.alloc o1) _
theorem CdS.start {w w1 : World} {a b v1 : Value} {D : List (List Int)} {L : List (List (List Int))} {o2 : Obj} (ho : o2 = .cells #[.slice none 0 0, .slice none 0 0] 26) (h : AccR ((w.alloc (.cells #[a, b] 26)).alloc o2) w1 v1 D) :
    CdS w w.heap.size (w.heap.size + 1) w1.heap.size a b v1 D L 0 (.slice none 0 0) (w1.alloc (.cells #[v1, .slice none 0 0] 26)) := by
  subst ho
  obtain ⟨b1, b2, hx, hs⟩ := two_blocks h.x
  obtain ⟨Z, hZ⟩ := h
  have hn := Ext.alloc w1 (.cells #[v1, .slice none 0 0] 26)
  refine ⟨hx.trans hn, Nat.le_refl _, by omega, by omega, (hn.block (by omega)).trans b1, (hn.block (by omega)).trans b2, heap_alloc_new w1 _, Z, fun _ => .slice none 0 0, fun _ _ => .slice none 0 0, (hZ.own.low (by simp; omega)).keep (KeepB.of_ext hn), OwnS.nil _ _ _ _, fun p hp j hj => absurd hj (by simp)⟩
theorem CdS.arg {w W : World} {m1 m2 m3 : Nat} {a b v1 vk : Value} {D : List (List Int)} {L : List (List (List Int))} {k : Nat} (h : CdS w m1 m2 m3 a b v1 D L k vk W) : W.cell? ⟨m1, 0, none⟩ = some a ∧ W.cell? ⟨m1, 1, none⟩ = some b := ⟨by rw [cell_cells h.2.2.2.2.1]; rfl, by rw [cell_cells h.2.2.2.2.1]; rfl⟩
theorem CdS.now {w W : World} {m1 m2 m3 : Nat} {a b v1 vk : Value} {D : List (List Int)} {L : List (List (List Int))} {k : Nat} (h : CdS w m1 m2 m3 a b v1 D L k vk W) : W.cell? ⟨m3, 0, none⟩ = some v1 ∧ W.cell? ⟨m3, 1, none⟩ = some vk := ⟨by rw [cell_cells h.2.2.2.2.2.2.1]; rfl, by rw [cell_cells h.2.2.2.2.2.2.1]; rfl⟩
theorem CdS.past {w W : World} {m1 m2 m3 : Nat} {a b v1 vk : Value} {D : List (List Int)} {L : List (List (List Int))} {k : Nat} (h : CdS w m1 m2 m3 a b v1 D L k vk W) (hk : k ≤ L.length) : ∃ A c, vk = .slice A k c := by
  obtain ⟨-, -, -, -, -, -, -, Z, U, V, -, hS, -⟩ := h
  obtain ⟨A, c, e, -⟩ := hS.mats
  rw [List.length_take] at e
  exact ⟨A, c, by rw [e, show min k L.length = k by omega]⟩
/-- the copy is done: the result's cells set -/
theorem CdS.done {w W : World} {m1 m2 m3 : Nat} {a b v1 v2 : Value} {D : List (List Int)} {L : List (List (List Int))} (h : CdS w m1 m2 m3 a b v1 D L L.length v2 W) :
    W.cell? ⟨m2, 0, none⟩ = some (.slice none 0 0) ∧ W.frozen? ⟨m2, 0, none⟩ = false ∧ (W.setCell ⟨m2, 0, none⟩ v1).cell? ⟨m2, 1, none⟩ = some (.slice none 0 0) ∧ (W.setCell ⟨m2, 0, none⟩ v1).frozen? ⟨m2, 1, none⟩ = false ∧
      ((W.setCell ⟨m2, 0, none⟩ v1).setCell ⟨m2, 1, none⟩ v2).cell? ⟨m2, 0, none⟩ = some v1 ∧ ((W.setCell ⟨m2, 0, none⟩ v1).setCell ⟨m2, 1, none⟩ v2).cell? ⟨m2, 1, none⟩ = some v2 ∧
      OwnDk w.heap.size ((W.setCell ⟨m2, 0, none⟩ v1).setCell ⟨m2, 1, none⟩ v2) (.agg #[v1, v2]) D L ∧ Ext w ((W.setCell ⟨m2, 0, none⟩ v1).setCell ⟨m2, 1, none⟩ v2) := by
  obtain ⟨hx, g1, g2, g3, b1, b2, b3, Z, U, V, hM, hS, hcr⟩ := h
  rw [List.take_of_length_le (Nat.le_refl _)] at hS hcr
  have s0 := set_0 (u := v1) b2
  have s1 := set_1 (u := v2) s0
  have k := (KeepB.set (b := w.heap.size) (p := ⟨m2, 0, none⟩) b2 (by decide) v1).trans (KeepB.set (p := ⟨m2, 1, none⟩) s0 (by decide) v2)
  exact ⟨by rw [cell_cells b2]; rfl, frozen_cells b2 0, by rw [cell_cells s0]; rfl, frozen_cells s0 1, by rw [cell_cells s1]; rfl, by rw [cell_cells s1]; rfl, ⟨v1, v2, Z, U, V, rfl, hM.keep k, hS.keep k, hcr⟩, (hx.setCell' (by show w.heap.size ≤ m2; omega) _).setCell' (by show w.heap.size ≤ m2; omega) _⟩
set_option maxRecDepth 100000 in
set_option maxHeartbeats 4000000 in
theorem copyDesk_any (A B : Option Addr) (c d : Nat) (D : List (List Int)) (L : List (List (List Int))) (w : World) (h1 : Mat w A c D) (h2 : MatS w B d L) (hz : SmD D L) :
    Calls Try.prog 48 #[.agg #[.slice A D.length c, .slice B L.length d]] w (CopyD w D L) := by
  have H1 := Lib.hid h1
  have H2 := Lib.hid h2
  have lB := h2.1
  have mB := h2.2.1
  unfold maxLen at mB
  obtain ⟨bS, oS, R, rc, hB, hrow, -, hmat⟩ := h2.parts
  have HC := Lib.hid (fun W (q : Mat W A c D) => copyRows_any A c D W q hz.1.1 hz.1.2)
  have HCL := Lib.hid (fun i (hi : i < L.length) W (q : Ext w W) => copyRows_any (R i) (rc i) (nth L i) W ((hmat i hi).ext q) (hz.2.2 i hi).1 (hz.2.2 i hi).2)
  have HROW := Lib.hid hrow
  have hl100 := hz.2.1
  have HTF := Lib.hid (show L.take L.length = L from List.take_of_length_le (Nat.le_refl _))
  have HLN := Lib.hid (fun i (hi : i < L.length) => hz.2.2 i hi)
  clear h1 h2 hz hrow hmat
  go_enter Try.func48, Try.ntmps48
  go_wp2_with fail
  refine (HC.out _ (H1.out.ext (by repeat (first | exact Ext.refl _ | assumption | apply Ext.drewN' | apply Ext.alloc' | refine Ext.trans ?_ (by assumption))))).mono ?_
  rintro e w1 ⟨v1, rfl, hA1⟩
  obtain ⟨A1, c1, rfl, -⟩ := hA1.mat
  have hx1 := hA1.x
  have HS0 := Lib.hid (CdS.start (L := L) rfl hA1)
  obtain ⟨q0, q1⟩ := HS0.out.arg
  clear hA1
  go_wp2_with fail
  obtain ⟨wz, hwz⟩ : ∃ wz, w1.alloc (.cells #[.slice A1 D.length c1, .slice none 0 0] 26) = wz := ⟨_, rfl⟩
  rw [hwz] at HS0
  rw [hwz]
  have hm1 : w1.heap.size = w1.heap.size := rfl
  obtain ⟨m3, hm3⟩ : ∃ m3, w1.heap.size = m3 := ⟨_, rfl⟩
  rw [hm3] at HS0
  rw [hm3]
  clear hwz q0 q1 hm3 hm1
  go_loopg [13] L.length (fun g s13 wr => ∃ (k : Nat) (vk : Value), k + g = L.length ∧ s13 = .int .i64 k ∧ Hid (CdS w w.heap.size (w.heap.size + 1) m3 (.slice A D.length c) (.slice B L.length d) (.slice A1 D.length c1) D L k vk wr))
  case atStart => exact ⟨0, _, by omega, rfl, HS0⟩
  case round =>
    obtain ⟨k, vk, hk, rfl, HS⟩ := hrel
    clear HS0
    by_cases hin : k < L.length
    · obtain ⟨gk1, rfl⟩ : ∃ g', gk = g' + 1 := ⟨gk - 1, by omega⟩
      have hin' : (k : Int) < (L.length : Nat) := by omega
      obtain rfl := hB (by omega)
      have hxr := HS.out.1
      have c1' := hxr.cell (HROW.out k hin)
      obtain ⟨q0, q1⟩ := HS.out.now
      obtain ⟨Ak, ck, rfl⟩ := HS.out.past (by omega)
      have HCk := Lib.hid (fun W (q : Ext wr W) => HCL.out k hin W (hxr.trans q))
      have HPU := Lib.hid (fun ty u cc W (q : AccR wr W u (nth L k)) => HS.out.push (P := Try.prog) (W := W) (u := u) (c := cc) (ty := ty) rfl Try.underlying24 infoM hin hl100 q)
      have HXR := Lib.hid hxr
      have hln := (HLN.out k hin).1
      have HQ1 := Lib.hid (fun W (q : Ext wr W) => q.cell q1)
      obtain ⟨ln, hln'⟩ : ∃ n, (nth L k).length = n := ⟨_, rfl⟩
      rw [hln'] at c1' HCk hln
      clear HS hln' hxr
      go_wp2_with fail
      go_region_law (first
        | (refine step_ex rfl _ _ rfl (.slice Ak k ck) (.slice (some ⟨_, 0, none⟩) 1 1) rfl rfl (HPU.out _ _ 1 w2 (hA.low (Ext.drewN wr 1))) ?_; rintro v9 w9 ⟨A9, c9, rfl, y1, y2, y3⟩)
        | (go_simp; go_at_call 77; refine (HCk.out wr.drew (Ext.drewN wr 1)).mono ?_; rintro e w2 ⟨u, rfl, hA⟩; obtain ⟨Au, cu, rfl, -⟩ := hA.mat; have hx2 : Ext wr.drew w2 := hA.x; have z1 := HQ1.out _ ((Ext.drewN wr 1).trans hx2); have z2 := HQ1.out _ (((Ext.drewN wr 1).trans hx2).alloc' (.cells #[.slice Au (nth L k).length cu] 23))))
      all_goals
        go_wp2
        go_roundg gk1
        case measure => omega
        case rel => exact ⟨k + 1, _, by omega, by go_num, Lib.hid y3⟩
    · have hin' : ¬ (k : Int) < (L.length : Nat) := by omega
      obtain rfl : gk = 0 := by omega
      obtain rfl : k = L.length := by omega
      obtain ⟨q0, q1⟩ := HS.out.now
      obtain ⟨Ak, ck, rfl⟩ := HS.out.past (Nat.le_refl _)
      obtain ⟨f1, f2, f3, f4, f5, f6, f7, f8⟩ := HS.out.done
      have HF := Lib.hid (And.intro f7 f8)
      clear HS f7 f8
      go_wp2
      refine bodyPost_ret (v := .agg #[.slice A1 D.length c1, .slice Ak L.length ck]) (by simp [results, Try.results48, go_sem, f5, f6]) rfl ⟨_, rfl, HF.out.1, HF.out.2⟩
set_option maxRecDepth 100000 in
set_option maxHeartbeats 4000000 in
theorem l11Copy_any (A B : Option Addr) (c d : Nat) (D : List (List Int)) (L : List (List (List Int))) (w : World) (h1 : Mat w A c D) (h2 : MatS w B d L) (hz : SmD D L) :
    Calls Try.prog 41 #[.agg #[.slice A D.length c, .slice B L.length d]] w (CopyD w D L) := by
  have H1 := Lib.hid h1
  have H2 := Lib.hid h2
  have lB := h2.1
  have mB := h2.2.1
  unfold maxLen at mB
  obtain ⟨bS, oS, R, rc, hB, hrow, -, hmat⟩ := h2.parts
  have HC := Lib.hid (fun W (q : Mat W A c D) => l2Copy_any A c D W q hz.1.1 hz.1.2)
  have HCL := Lib.hid (fun i (hi : i < L.length) W (q : Ext w W) => l2Copy_any (R i) (rc i) (nth L i) W ((hmat i hi).ext q) (hz.2.2 i hi).1 (hz.2.2 i hi).2)
  have HROW := Lib.hid hrow
  have hl100 := hz.2.1
  have HTF := Lib.hid (show L.take L.length = L from List.take_of_length_le (Nat.le_refl _))
  have HLN := Lib.hid (fun i (hi : i < L.length) => hz.2.2 i hi)
  clear h1 h2 hz hrow hmat
  go_enter Try.func41, Try.ntmps41
  go_wp2_with fail
  refine (HC.out _ (H1.out.ext (by repeat (first | exact Ext.refl _ | assumption | apply Ext.drewN' | apply Ext.alloc' | refine Ext.trans ?_ (by assumption))))).mono ?_
  rintro e w1 ⟨v1, rfl, hA1⟩
  obtain ⟨A1, c1, rfl, -⟩ := hA1.mat
  have hx1 := hA1.x
  have HS0 := Lib.hid (CdS.start (L := L) rfl hA1)
  obtain ⟨q0, q1⟩ := HS0.out.arg
  clear hA1
  go_wp2_with fail
  obtain ⟨wz, hwz⟩ : ∃ wz, w1.alloc (.cells #[.slice A1 D.length c1, .slice none 0 0] 26) = wz := ⟨_, rfl⟩
  rw [hwz] at HS0
  rw [hwz]
  have hm1 : w1.heap.size = w1.heap.size := rfl
  obtain ⟨m3, hm3⟩ : ∃ m3, w1.heap.size = m3 := ⟨_, rfl⟩
  rw [hm3] at HS0
  rw [hm3]
  clear hwz q0 q1 hm3 hm1
  go_loopg [4] L.length (fun g s4 wr => ∃ (k : Nat) (vk : Value), k + g = L.length ∧ s4 = .int .i64 k ∧ Hid (CdS w w.heap.size (w.heap.size + 1) m3 (.slice A D.length c) (.slice B L.length d) (.slice A1 D.length c1) D L k vk wr))
  case atStart => exact ⟨0, _, by omega, rfl, HS0⟩
  case round =>
    obtain ⟨k, vk, hk, rfl, HS⟩ := hrel
    clear HS0
    obtain ⟨qa, qb⟩ := HS.out.arg
    by_cases hin : k < L.length
    · obtain ⟨gk1, rfl⟩ : ∃ g', gk = g' + 1 := ⟨gk - 1, by omega⟩
      have hin' : (k : Int) < (L.length : Nat) := by omega
      obtain rfl := hB (by omega)
      have hxr := HS.out.1
      have c1' := hxr.cell (HROW.out k hin)
      obtain ⟨q0, q1⟩ := HS.out.now
      obtain ⟨Ak, ck, rfl⟩ := HS.out.past (by omega)
      have HCk := Lib.hid (fun W (q : Ext wr W) => HCL.out k hin W (hxr.trans q))
      have HPU := Lib.hid (fun ty u cc W (q : AccR wr W u (nth L k)) => HS.out.push (P := Try.prog) (W := W) (u := u) (c := cc) (ty := ty) rfl Try.underlying24 infoM hin hl100 q)
      have HXR := Lib.hid hxr
      have hln := (HLN.out k hin).1
      have HQ1 := Lib.hid (fun W (q : Ext wr W) => q.cell q1)
      obtain ⟨ln, hln'⟩ : ∃ n, (nth L k).length = n := ⟨_, rfl⟩
      rw [hln'] at c1' HCk hln
      clear HS hln' hxr
      go_wp2_with fail
      go_region_law (first
        | (refine step_ex rfl _ _ rfl (.slice Ak k ck) (.slice (some ⟨_, 0, none⟩) 1 1) rfl rfl (HPU.out _ _ 1 w2 (hA.low (Ext.drewN wr 1))) ?_; rintro v9 w9 ⟨A9, c9, rfl, y1, y2, y3⟩)
        | (go_simp; go_at_call 70; refine (HCk.out wr.drew (Ext.drewN wr 1)).mono ?_; rintro e w2 ⟨u, rfl, hA⟩; obtain ⟨Au, cu, rfl, -⟩ := hA.mat; have hx2 : Ext wr.drew w2 := hA.x; have z1 := HQ1.out _ ((Ext.drewN wr 1).trans hx2); have z2 := HQ1.out _ (((Ext.drewN wr 1).trans hx2).alloc' (.cells #[.slice Au (nth L k).length cu] 23))))
      all_goals
        go_wp2
        go_roundg gk1
        case measure => omega
        case rel => exact ⟨k + 1, _, by omega, by go_num, Lib.hid y3⟩
    · have hin' : ¬ (k : Int) < (L.length : Nat) := by omega
      obtain rfl : gk = 0 := by omega
      obtain rfl : k = L.length := by omega
      obtain ⟨q0, q1⟩ := HS.out.now
      obtain ⟨Ak, ck, rfl⟩ := HS.out.past (Nat.le_refl _)
      obtain ⟨f1, f2, f3, f4, f5, f6, f7, f8⟩ := HS.out.done
      have HF := Lib.hid (And.intro f7 f8)
      clear HS f7 f8
      go_wp2
      refine bodyPost_ret (v := .agg #[.slice A1 D.length c1, .slice Ak L.length ck]) (by simp [results, Try.results41, go_sem, f5, f6]) rfl ⟨_, rfl, HF.out.1, HF.out.2⟩
end Go.Proofs.Ytbkefojepelggaa
