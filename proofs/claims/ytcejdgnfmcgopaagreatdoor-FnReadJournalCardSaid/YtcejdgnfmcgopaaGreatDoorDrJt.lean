/- What is proved: l20Written and DrawJournalText (if l20Deed draws a deed). Conditions: those of each contract. -/
import Derived.Test.YtcejdgnfmcgopaaGreatDoorDrRun
import Derived.Test.YtcejdgnfmcgopaaGreatDoorJq
namespace Go.Proofs.YtcejdgnfmcgopaaGreatDoor
open Go.RowKit
/-- deeds that have texts, under way: those among the first i of ds -/
def WrS (w w1 w2 : World) (B g : Nat) (u : Int) (i : Nat) (V : Nat → Value) (v : Value) (out : List (Int × List Int)) (W : World) : Prop :=
  RdU W B g u ∧ ExtG g w W ∧ (∀ k, w1.heap.size ≤ k → k < w2.heap.size → W.heap[k]? = w2.heap[k]?) ∧ w2.heap.size ≤ W.heap.size ∧ (∀ k, v.ownBlock = some k → k < w1.heap.size ∨ w2.heap.size ≤ k) ∧
    (∃ VV, OwnDs w.heap.size W v out VV ∧ ∀ j, j < out.length → ∃ q, q < i ∧ VV j = V q) ∧ AllT out ∧ out.length ≤ i ∧ (∀ j, j < out.length → (dx out j).length ≤ 8)
theorem WrS.ext {w w1 w2 W W' : World} {B g : Nat} {u : Int} {i : Nat} {V : Nat → Value} {v : Value} {out : List (Int × List Int)} (h : WrS w w1 w2 B g u i V v out W) (k : Ext W W') (hB : B ≤ W.heap.size) : WrS w w1 w2 B g u i V v out W' := by
  obtain ⟨h1, h2, h3, h4, h5, ⟨VV, h6, h7⟩, h8⟩ := h
  exact ⟨h1.ext k hB, h2.on k, fun q q1 q2 => (k.block (by omega)).trans (h3 q q1 q2), Nat.le_trans h4 k.size, h5, ⟨VV, h6.keep (KeepE.of_ext k), h7⟩, h8⟩
theorem WrS.skip {w w1 w2 W : World} {B g : Nat} {u : Int} {i : Nat} {V : Nat → Value} {v : Value} {out : List (Int × List Int)} (h : WrS w w1 w2 B g u i V v out W) : WrS w w1 w2 B g u (i + 1) V v out W := by
  obtain ⟨h1, h2, h3, h4, h5, ⟨VV, h6, h7⟩, h8, h9, h10⟩ := h
  exact ⟨h1, h2, h3, h4, h5, ⟨VV, h6, fun j hj => by obtain ⟨q, q1, q2⟩ := h7 j hj; exact ⟨q, by omega, q2⟩⟩, h8, by omega, h10⟩
theorem WrS.push {P : Program} {w w1 w2 W : World} {B g : Nat} {u : Int} {i : Nat} {V : Nat → Value} {v : Value} {out ds : List (Int × List Int)} {T E ty : TypeId} (hE : E = 56) (ht : P.underlying T = some (.slice E)) (hinfo : (P.info? E).map (fun i => (i.zero, i.size, i.bytes)) = some (some (.agg #[.int .i64 0, .slice none 0 0]), 2, 32))
    {vl : Value} (h : WrS w w1 w2 B g u i V v out W) (hl : OwnDs w1.heap.size w2 vl ds V) (hi : i < ds.length) (h8 : (dx ds i).length ≤ 8) (hT : dtx (dk ds i) (dx ds i) ≠ []) (hw1 : w.heap.size ≤ w1.heap.size) (hB : B ≤ w.heap.size) (hi5 : i ≤ 1000) :
    ∃ v' w', (Builtin.append_ #[T, T] ty #[v, .slice (some ⟨W.heap.size, 0, none⟩) 1 1]).run P (W.alloc (.cells #[.int .i64 (dk ds i), V i] E)) = .ok v' w' ∧ WrS w w1 w2 B g u (i + 1) V v' (out ++ [(dk ds i, dx ds i)]) w' := by
  subst hE
  have hwW := h.2.1.size
  have hk := h.ext (Ext.alloc W (.cells #[.int .i64 (dk ds i), V i] 56)) (by omega)
  obtain ⟨h1, h2, h3, h4, h5, ⟨VV, h6, h7⟩, hA, h9, h10⟩ := hk
  have hb := heap_alloc_new W (.cells #[.int .i64 (dk ds i), V i] 56)
  have hleaf : Leaf (W.alloc (.cells #[.int .i64 (dk ds i), V i] 56)) (V i) (dx ds i) := (hl.2.1 i hi).keep fun q hq => h3 q (hl.2.2.1 i hi q hq) ((hl.2.1 i hi).lt hq)
  have h4' := h.2.2.2.1
  obtain ⟨v', w', hr, g2, g3, g5, g6⟩ := h6.push (P := P) (T := T) (ty := ty) rfl ht hinfo (kind := dk ds i) (u := V i) (xs := dx ds i) hleaf (fun q hq => Nat.le_trans hw1 (hl.2.2.1 i hi q hq)) (fun j hj q hq hq2 => by
    obtain ⟨p, p1, p2⟩ := h7 j hj
    rw [p2] at hq2
    exact hl.2.2.2 i p hi (by omega) (by omega) q hq hq2) ⟨W.heap.size, 0, none⟩ 1 (by show World.cell? _ ⟨W.heap.size, 0 + 0, none⟩ = _; rw [cell_cells hb]; rfl) (by show World.cell? _ ⟨W.heap.size, 0 + 1, none⟩ = _; rw [cell_cells hb]; rfl) (by omega) (by simp; omega)
  have hown : ∀ k, v.ownBlock = some k → w.heap.size ≤ k := fun k hk => (h6.1.lt k hk).1
  have hs2 := h2.size
  have hg := h1.lt
  have hst : v'.ownBlock = v.ownBlock ∨ v'.ownBlock = some (W.alloc (.cells #[.int .i64 (dk ds i), V i] 56)).heap.size := g5
  refine ⟨v', w', hr, h1.keep fun k hk => g3.block k (by omega) fun e => (by have := hown k e.symm; omega), ⟨g3.os.trans h2.1, g3.tape.trans h2.2.1, g3.output.trans h2.2.2.1, Nat.le_trans hs2 g3.size, fun k k1 k2 => (g3.block k (by omega) fun e => (by have := hown k e.symm; omega)).trans (h2.2.2.2.2 k k1 k2)⟩, fun k k1 k2 => (g3.block k (by omega) fun e => (by rcases h5 k e.symm with q | q <;> omega)).trans (h3 k k1 k2), Nat.le_trans h4 g3.size, fun k hk => ?_, ⟨_, g2, fun j hj => ?_⟩, fun a ha => ?_, ?_, fun j hj => ?_⟩
  · rcases hst with q | q
    · exact h5 k (q ▸ hk)
    · rw [q] at hk
      injection hk with hk
      exact Or.inr (by omega)
  · rw [List.length_append, List.length_singleton] at hj
    by_cases q : j = out.length
    · exact ⟨i, by omega, by show (if j = out.length then V i else VV j) = _; rw [if_pos q]⟩
    · obtain ⟨p, p1, p2⟩ := h7 j (by omega)
      exact ⟨p, by omega, by show (if j = out.length then V i else VV j) = _; rw [if_neg q]; exact p2⟩
  · rcases List.mem_append.1 ha with q | q
    · exact hA a q
    · rw [List.mem_singleton.1 q]; exact hT
  · rw [List.length_append, List.length_singleton]; omega
  · rw [List.length_append, List.length_singleton] at hj
    by_cases q : j = out.length
    · subst q; rw [dk_last.2]; exact h8
    · rw [(dk_app (by omega)).2]; exact h10 j (by omega)
/-- what l20Written hands back -/
def Written (w : World) (B g : Nat) (u : Int) (e : Ending) (w' : World) : Prop :=
  ∃ A c ds V, e = .returned (.slice A (List.length ds) c) ∧ OwnDs w.heap.size w' (.slice A ds.length c) ds V ∧ AllT ds ∧ ds.length ≤ 5 ∧ (∀ j, j < ds.length → (dx ds j).length ≤ 8) ∧ RdU w' B g u ∧ ExtG g w w'
set_option maxRecDepth 100000 in
set_option maxHeartbeats 4000000 in
theorem l20Written_any (hDeed : DeedAny) {w : World} {B g : Nat} {u : Int} (hR : RdU w B g u) (hB : B ≤ w.heap.size) (hu : u ≤ 50000) :
    Calls Tryz.prog 74 #[.pointer (some ⟨g, 0, none⟩)] w (Written w B g (u + 500)) := by
  have hg := hR.lt
  have hxa : Ext w (w.alloc (.cells #[] 56)) := Ext.alloc _ _
  have hba := heap_alloc_new w (.cells #[] 56)
  have hOa := OwnDs.made (base := w.heap.size) (W := w) (Nat.le_refl _) (fun _ => .slice none 0 0)
  have hsa : (w.alloc (.cells #[] 56)).heap.size = w.heap.size + 1 := by simp
  obtain ⟨wa, hwa⟩ : ∃ W, w.alloc (.cells #[] 56) = W := ⟨_, rfl⟩
  rw [hwa] at hxa hba hOa hsa
  have HR := Lib.hid (hR.ext hxa hB)
  have HXA := Lib.hid hxa
  have HOA := Lib.hid hOa
  have HSA := Lib.hid hsa
  clear hR hxa hba hOa hsa
  go_enter Tryz.func74, Tryz.ntmps74
  go_wp2_with fail
  clear hwa
  refine (l20Desk_any hDeed HR.out (by have := HSA.out; omega) (by omega) 0 (by omega) (by omega)).mono ?_
  rintro e w1 ⟨A', c', Bp, d, D, L, rfl, hF, hS, hR1, hX1⟩
  have hs1 : w.heap.size + 1 ≤ w1.heap.size := by have := hX1.size; have := HSA.out; omega
  have HDS := Lib.hid (l20Deeds_own hDeed hR1 (by omega) (by omega) A' c' D (.slice Bp L.length d) (fun W' hW => (hF W' fun k k1 k2 => hW k k2 (by have := HSA.out; omega)).1) hS rfl)
  have HX1 := Lib.hid hX1
  clear hF hS hR1 hX1
  go_wp2_with fail
  refine HDS.out.mono ?_
  rintro e w2 ⟨A2, c2, ds, V, rfl, hO2, hne2, hl5, hb2, hR2, hX2⟩
  have HO2 := Lib.hid hO2
  obtain ⟨A2', c2', ev, hc1, hc2, b, hA, hcell⟩ := hO2.row
  injection ev with ev1 ev2 ev3
  subst ev1 ev3
  clear ev2
  unfold maxLen at hc2
  have hs2 : w1.heap.size ≤ w2.heap.size := hX2.size
  have HCE := Lib.hid (fun (W : World) (q : ∀ k, w1.heap.size ≤ k → k < w2.heap.size → W.heap[k]? = w2.heap[k]?) i (hi : i < ds.length) => (by
    obtain ⟨-, hbb, cur, hbk⟩ := hA (by omega)
    have hblk := (q b hbb (heap_lt hbk)).trans hbk
    obtain ⟨c1, c2⟩ := hcell i hi
    rw [cell_cells hbk, Nat.zero_add] at c1 c2
    exact ⟨by rw [cell_cells hblk]; exact c1, by rw [cell_cells hblk]; exact c2⟩ : W.cell? ⟨b, i * 2, none⟩ = some (.int .i64 (dk ds i)) ∧ W.cell? ⟨b, i * 2 + 1, none⟩ = some (V i)))
  have hA' : 0 < ds.length → A2 = some ⟨b, 0, none⟩ := fun q => (hA q).1
  have HB2 := Lib.hid hb2
  have HW2 : Hid (WrS w w1 w2 B g (u + 450) 0 V (.slice (some ⟨w.heap.size, 0, none⟩) 0 0) [] w2) := Lib.hid
    ⟨hR2.le (by omega), ((HXA.out.toG g).trans HX1.out).trans hX2, fun _ _ _ => rfl, Nat.le_refl _, fun k hk => (by simp [Value.ownBlock] at hk; omega),
      ⟨_, HOA.out.keep (fun q cs t hq1 hq2 _ => by
        have hqlt := heap_lt hq2
        exact (hX2.2.2.2.2 q (by have := HX1.out.size; omega) (by omega)).trans (HX1.out.2.2.2.2 q hqlt (by omega))), fun j hj => absurd hj (by simp)⟩, (fun a ha => by cases ha), by simp, fun j hj => absurd hj (by simp)⟩
  clear hO2 hne2 hb2 hR2 hX2 hA hcell HDS HX1 HOA HXA HR
  go_wp2_with fail
  go_loopg [3, 5] ds.length (fun gm s3 s5 wr => ∃ (i : Nat) (v : Value) (out : List (Int × List Int)), i + gm = ds.length ∧ s5 = .int .i64 i ∧ v = s3 ∧ Hid (WrS w w1 w2 B g (u + 450) i V v out wr))
  case atStart => exact ⟨0, _, [], by omega, rfl, rfl, HW2⟩
  case round =>
    obtain ⟨i, v, out, hi, rfl, rfl, HW⟩ := hrel
    by_cases hin : i < ds.length
    · obtain ⟨g1, rfl⟩ : ∃ g', gk = g' + 1 := ⟨gk - 1, by omega⟩
      have hin' : (i : Int) < (ds.length : Nat) := by omega
      obtain rfl := hA' (by omega)
      obtain ⟨r1, r2⟩ := HCE.out wr HW.out.2.2.1 i hin
      obtain ⟨hbk, h8, -⟩ := HB2.out i hin
      have hle := HW.out.2.1.size
      have HPU := fun W (q : Ext wr W) (hT : dtx (dk ds i) (dx ds i) ≠ []) => (HW.out.ext q (by omega)).push (P := Tryz.prog) (T := 47) (E := 56) (ty := 47) rfl Tryz.underlying47 infoDeed HO2.out hin h8 hT (by omega) hB (by omega)
      have hleaf : Leaf wr (V i) (dx ds i) := (HO2.out.2.1 i hin).keep fun q hq => HW.out.2.2.1 q (HO2.out.2.2.1 i hin q hq) ((HO2.out.2.1 i hin).lt hq)
      obtain ⟨X, cx, hv, hI⟩ := hleaf.ints
      have HDT := Lib.hid (sDeedText_any (dk ds i) X cx (dx ds i) wr hI (by omega))
      have htl := dtx_len (dk ds i) (dx ds i)
      have HRR := Lib.hid (fun W (q : Ext wr W) => HCE.out W (fun k k1 k2 => (q.block (by have := HW.out.2.2.2.1; omega)).trans (HW.out.2.2.1 k k1 k2)) i hin)
      rw [hv] at r2 HPU HRR
      obtain ⟨kd, hkd⟩ : ∃ k, dk ds i = k := ⟨_, rfl⟩
      obtain ⟨xs, hxs⟩ : ∃ k, dx ds i = k := ⟨_, rfl⟩
      rw [hkd] at r1 HPU HRR HDT htl
      rw [hxs] at r2 HPU HRR HDT htl
      obtain ⟨T, hT⟩ : ∃ T, dtx kd xs = T := ⟨_, rfl⟩
      rw [hT] at HPU HDT htl
      have HPU' := Lib.hid HPU
      clear HPU hkd hxs hT hleaf hI hv hbk h8
      go_wp2_with fail
      refine HDT.out.mono ?_
      rintro e w5 ⟨rfl, hx5⟩
      clear r1 r2
      obtain ⟨r1, r2⟩ := HRR.out w5 hx5
      unfold tx
      by_cases hT0 : T = []
      · subst hT0
        have HN := Lib.hid ((HW.out.ext hx5 (by omega)).skip)
        clear HPU' hx5
        go_wp2_with fail
        go_roundg g1
        case measure => omega
        case rel => exact ⟨i + 1, _, out, by omega, by go_num, rfl, HN⟩
      · have hne' : T.isEmpty = false := by
          cases T with
          | nil => exact absurd rfl hT0
          | cons x l => rfl
        have HP5 := Lib.hid (HPU'.out w5 hx5 hT0)
        clear HPU' hx5
        go_wp2_with (at_builtin; go_loud (refine wpList_ex rfl _ _ rfl _ (.slice (some ⟨_, 0, none⟩) 1 1) rfl rfl HP5.out ?_; rintro v8 w8 hS8))
        go_roundg g1
        case measure => omega
        case rel => exact ⟨i + 1, _, _, by omega, by go_num, rfl, Lib.hid hS8⟩
    · have hin' : ¬ (i : Int) < (ds.length : Nat) := by omega
      obtain rfl : gk = 0 := by omega
      obtain ⟨h1, h2, -, -, -, ⟨VV, h6, -⟩, hT, h9, h10⟩ := HW.out
      obtain ⟨A9, c9, rfl, -⟩ := h6.deeds
      have HF := Lib.hid (show Written w B g (u + 500) (.returned (.slice A9 out.length c9)) wr from ⟨A9, c9, out, VV, rfl, h6, hT, by omega, h10, h1.le (by omega), h2⟩)
      clear h1 h2 h6 hT h9 h10 hA'
      go_wp2_with fail
      go_ret
      exact HF.out
end Go.Proofs.YtcejdgnfmcgopaaGreatDoor
