/- What is proved: DrawDeskSay draws a desk and lines (if l20Deed draws a deed). Conditions: those of each contract. -/
import Derived.Test.YtnalcgcdohlfiaaGreatDoorDrLn
import Derived.Test.YtnalcgcdohlfiaaGreatDoorTs
import Derived.Maps.AppendAt
import Derived.Deep.RegionLaw
namespace Go.Proofs.YtnalcgcdohlfiaaGreatDoor
open Go.RowKit
/-- lines under way: w3 is the world behind the desk -/
def SyD (w3 : World) (B g : Nat) (u : Int) (ts : List (List UInt8)) (v : Value) (W : World) : Prop :=
  RdU W B g u ∧ ExtG g w3 W ∧ W.ownsRow w3.heap.size 9 1 v ts.length (ts.map tx) ∧ v ≠ .slice none 0 0 ∧ ∀ t ∈ ts, t.length ≤ 200
theorem own_g {b g : Nat} {W W' : World} {E : TypeId} {v : Value} {n : Nat} {xs : List Value} (h : W.ownsRow b E 1 v n xs) (k : ExtG g W W') (hg : g < b) : W'.ownsRow b E 1 v n xs := by
  refine ⟨h.1, ?_⟩
  rcases h.2 with h3 | ⟨q, cap, cur, e1, e2, e3, e4⟩
  · exact .inl h3
  · exact .inr ⟨q, cap, cur, e1, e2, (k.2.2.2.2 q (heap_lt e3) (by omega)).trans e3, e4⟩
theorem SyD.le {w3 W : World} {B g : Nat} {u u' : Int} {ts : List (List UInt8)} {v : Value} (h : SyD w3 B g u ts v W) (k : u ≤ u') : SyD w3 B g u' ts v W := ⟨h.1.le k, h.2⟩
theorem SyD.rd {w3 W W' : World} {B g : Nat} {u u' : Int} {ts : List (List UInt8)} {v : Value} (h : SyD w3 B g u ts v W) (k : ExtG g W W') (hR : RdU W' B g u') (hB : B ≤ w3.heap.size) : SyD w3 B g u' ts v W' := by
  obtain ⟨h1, h2, h3, h4, h5⟩ := h
  have hg := hR.lt
  exact ⟨hR, h2.trans k, own_g h3 k (by omega), h4, h5⟩
theorem SyD.start {w3 : World} {B g : Nat} {u : Int} (hR : RdU w3 B g u) (hB : B ≤ w3.heap.size) : SyD w3 B g u [] (.slice (some ⟨w3.heap.size, 0, none⟩) 0 0) (w3.alloc (.cells #[] 9)) :=
  ⟨hR.ext (Ext.alloc _ _) hB, (Ext.alloc _ _).toG g, (Acc.empty (w0 := w3) 9 (Ext.refl _)).2, by simp, fun t ht => by cases ht⟩
theorem SyD.push {P : Program} {w3 W : World} {B g : Nat} {u : Int} {ts : List (List UInt8)} {v : Value} {T E ty : TypeId} {T0 : List UInt8} (hE : E = 9) (ht : P.underlying T = some (.slice E)) (hinfo : (P.info? E).map (fun i => (i.zero, i.size, i.bytes)) = some (some (.string ByteArray.empty), 1, 16))
    (h : SyD w3 B g u ts v W) (hB : B ≤ w3.heap.size) (hT : T0.length ≤ 200) (hl : ts.length ≤ 1000) :
    ∃ v' w', (Builtin.append_ #[T, T] ty #[v, .slice (some ⟨W.heap.size, 0, none⟩) 1 1]).run P (W.alloc (.cells #[.string ⟨T0.toArray⟩] E)) = .ok v' w' ∧ SyD w3 B g u (ts ++ [T0]) v' w' := by
  subst hE
  have h0 := h.rd ((Ext.alloc W (.cells #[.string ⟨T0.toArray⟩] 9)).toG g) (h.1.ext (Ext.alloc _ _) (by have := h.2.1.size; omega)) hB
  obtain ⟨h1, h2, h3, h4, h5⟩ := h0
  have hg := h1.lt
  obtain ⟨i0, hi, hz, hsz, hb⟩ := info_parts hinfo
  have hs2 := h2.size
  obtain ⟨v', w', hr, g2, g3, g4, g5⟩ := run_append_own_at (P := P) (w := W.alloc (.cells #[.string ⟨T0.toArray⟩] 9)) w3.heap.size T ty 9 i0 (.string ByteArray.empty) 1 16 ht hi hz hsz hb rfl (by decide) v ts.length (ts.map tx) h3 ⟨W.heap.size, 0, none⟩ 1 1 [.string ⟨T0.toArray⟩] (by simp) (one_news (cell_new0 W _ _) rfl) (fun u hu => by simp at hu; rw [hu]; rfl)
    (by unfold maxLen; omega) (by omega) hs2
  have hown : ∀ k, v.ownBlock = some k → w3.heap.size ≤ k := fun k hk => (h3.lt k hk).1
  have hkb : ∀ k, k < w3.heap.size → w'.heap[k]? = (W.alloc (.cells #[.string ⟨T0.toArray⟩] 9)).heap[k]? := fun k hk => g3.block k (by omega) fun e => by have := hown k e.symm; omega
  refine ⟨v', w', hr, h1.keep fun k hk => hkb k (by omega), ⟨g3.os.trans h2.1, g3.tape.trans h2.2.1, g3.output.trans h2.2.2.1, Nat.le_trans hs2 g3.size, fun k k1 k2 => (hkb k k1).trans (h2.2.2.2.2 k k1 k2)⟩, ?_, fun e => h4 (g4.1 e).1, fun t ht => ?_⟩
  · rw [List.length_append, List.length_singleton, List.map_append]
    exact g2
  · rcases List.mem_append.1 ht with q | q
    · exact h5 t q
    · rw [List.mem_singleton.1 q]; exact hT
theorem SyD.len {w3 W : World} {B g : Nat} {u : Int} {ts : List (List UInt8)} {v : Value} (h : SyD w3 B g u ts v W) : ∃ q c, v = .slice (some ⟨q, 0, none⟩) ts.length c ∧ w3.heap.size ≤ q := by
  rcases h.2.2.1.2 with ⟨e, -⟩ | ⟨q, cap, cur, e1, e2, -⟩
  · exact absurd e h.2.2.2.1
  · exact ⟨q, cap, e1, e2⟩
/-- what DrawDeskSay hands back -/
def DrawnSay (w : World) (e : Ending) (w' : World) : Prop :=
  ∃ A c Bp d D L X cx ts, e = .returned (.tuple #[.agg #[.slice A (List.length D) c, .slice Bp (List.length L) d], .slice X (List.length ts) cx]) ∧ Mat w' A c D ∧ MatS w' Bp d L ∧ Txts w' X cx ts ∧ (∃ q, X = some ⟨q, 0, none⟩) ∧ ts.length ≤ 41 ∧ (∀ i, i < ts.length → (ts.getD i []).length ≤ 200) ∧ Ext w w'
theorem rep_len (n i : Nat) : ((List.replicate n ([] : List UInt8)).getD i []).length ≤ 200 := by
  rw [List.getD_eq_getElem?_getD, List.getElem?_replicate]
  split <;> simp
/-- texts of a row made -/
theorem zero_texts (W : World) {m n : Nat} (hn : n ≤ 1000) (hb : W.heap[m]? = some (.cells (madeCells #[.string ByteArray.empty] n) 9 (0, 0))) : Txts W (some ⟨m, 0, none⟩) n (List.replicate n []) := by
  refine ⟨by rw [List.length_replicate]; exact Nat.le_refl _, by unfold maxLen; omega, m, 0, fun _ => ⟨rfl, _, hb⟩, fun i hi => ?_⟩
  rw [List.length_replicate] at hi
  rw [cell_cells hb, Nat.zero_add]
  have e1 : (List.replicate n ([] : List UInt8)).getD i [] = [] := by simp [List.getD_eq_getElem?_getD, hi]
  rw [e1]
  simp [madeCells, hi, Nat.mod_one]
  try rfl
set_option maxRecDepth 100000 in
set_option maxHeartbeats 8000000 in
theorem drawDeskSay_any (hDeed : DeedAny) (A : Option Addr) (n c : Nat) (w : World) (h : Byt w A n c) :
    Calls Tryz.prog 4 #[.slice A n c] w (DrawnSay w) := by
  have HB := Lib.hid (fun W (q : Ext w W) => h.ext q)
  obtain ⟨w0, hw0⟩ : ∃ W, w.alloc (.cells #[.slice none 0 0, .slice none 0 0] 26) = W := ⟨_, rfl⟩
  have hx0 : Ext w w0 := by rw [← hw0]; exact Ext.alloc _ _
  have hb0 := heap_alloc_new w (.cells #[.slice none 0 0, .slice none 0 0] 26)
  have hs0 : w.heap.size < w0.heap.size := by rw [← hw0]; simp
  rw [hw0] at hb0
  have HX0 := Lib.hid (And.intro hx0 hb0)
  clear h hx0 hb0
  go_enter Tryz.func4, Tryz.ntmps4
  go_wp2_with fail
  refine (open_any A n c _ (HB.out _ HX0.out.1)).mono ?_
  rintro e w1 ⟨g, rfl, hx1, hg, hR⟩
  have hlt := hR.lt
  have hsg : w.heap.size < g := by omega
  have HR := Lib.hid hR
  have HX1 := Lib.hid (And.intro (HX0.out.1.trans hx1) ((hx1.block (heap_lt HX0.out.2)).trans HX0.out.2))
  have hs1 := hx1.size
  clear hR hx1
  go_wp2_with fail
  refine (l20Desk_any hDeed HR.out (Nat.le_refl _) (by omega) 12 (by omega) (by omega)).mono ?_
  rintro e w2 ⟨A', c', Bp, d, D, L, rfl, hF, hS, hR2, hX2⟩
  obtain ⟨w3, hw3⟩ : ∃ W, w2.alloc (.cells #[.slice A' D.length c', .slice Bp L.length d] 26) = W := ⟨_, rfl⟩
  have hx3 : Ext w2 w3 := by rw [← hw3]; exact Ext.alloc _ _
  have hb3 := heap_alloc_new w2 (.cells #[.slice A' D.length c', .slice Bp L.length d] 26)
  rw [hw3] at hb3
  have hs2 := hX2.size
  have hs3 := hx3.size
  have hs23 := heap_lt hb3
  have hX13 : ExtG g w1 w3 := hX2.on hx3
  have hbr : w3.heap[w.heap.size]? = some (.cells #[.slice none 0 0, .slice none 0 0] 26 (0, 0)) := (hX13.2.2.2.2 _ (by omega) (by omega)).trans HX1.out.2
  have HF := Lib.hid (hF.ext hx3)
  have HSM := Lib.hid hS
  have hB3 : w1.heap.size ≤ w3.heap.size := by omega
  have HS4 := Lib.hid (SyD.start (hR2.ext hx3 hs2) hB3)
  have HX3 := Lib.hid (And.intro hX13 (And.intro hb3 hbr))
  have HUN := Lib.hid (fun W (q : ExtG g w3 W) => (fun W' hW => (HF.out W' fun k k1 k2 => (hW k (by have := q.size; omega) (by omega)).trans (q.2.2.2.2 k k2 (by omega))).1 : Under W.heap.size g W A' c' D))
  clear hF hS hR2 hX2 hx3 hb3 hX13 hbr HR HB
  go_wp2_with fail
  refine (pickU HS4.out.1 7 (by omega) (by omega) (by omega)).mono ?_
  rintro e w5 ⟨K, rfl, K0, K1, hR5, hO5⟩
  have HS5 := Lib.hid (HS4.out.rd hO5.toG hR5 hB3)
  obtain ⟨K, rfl⟩ : ∃ n : Nat, K = (n : Int) := ⟨K.toNat, by omega⟩
  have hK6 : K ≤ 6 := by omega
  clear HS4 hO5 hR5 K0 K1
  go_wp2_with fail
  go_loopg [7, 6] K (fun gm s7 s6 wr => ∃ (j : Nat) (ts : List (List UInt8)) (v : Value), j + gm = K ∧ s7 = .int .i64 gm ∧ s6 = v ∧ Hid (List.length ts = j) ∧ Hid (SyD w3 w1.heap.size g (0 + 250 + 1 + 40 * j) ts v wr))
  case atStart => exact ⟨0, [], _, by omega, rfl, rfl, Lib.hid rfl, Lib.hid (HS5.out.le (by omega))⟩
  case round =>
    clear HS5
    obtain ⟨j, ts, v, hj, rfl, rfl, HL, HS⟩ := hrel
    have hgr := HS.out.2.1
    obtain ⟨p0, p1⟩ := two_cells ((hgr.2.2.2.2 _ hs23 (by omega)).trans HX3.out.2.1)
    have hsr := hgr.size
    obtain ⟨q9, c9, rfl, hq9⟩ := HS.out.len
    by_cases hk0 : 0 < gk
    · obtain ⟨g1, rfl⟩ : ∃ g', gk = g' + 1 := ⟨gk - 1, by omega⟩
      have hk0' : (0 : Int) < ((g1 + 1 : Nat) : Int) := by omega
      have HC := Lib.hid (l20Line_any hDeed HS.out.1 (show w1.heap.size ≤ wr.heap.size by omega) (by omega) A' c' D (.slice Bp L.length d) (HUN.out wr hgr) HSM.out rfl)
      clear hgr
      go_wp2_with fail
      refine HC.out.mono ?_
      rintro e w6 ⟨T, rfl, hT, hR6, hG6⟩
      have HS6 := Lib.hid (HS.out.rd hG6 hR6 hB3)
      have HPU := Lib.hid (HS6.out.push (P := Tryz.prog) (T := 27) (E := 9) (ty := 27) (T0 := T) rfl Tryz.underlying27 infoS hB3 hT (by have := HL.out; omega))
      clear HS HC p0 p1 hR6 hG6
      unfold tx
      go_wp2_with (at_builtin; go_loud (refine wpList_ex rfl _ _ rfl _ (.slice (some ⟨_, 0, none⟩) 1 1) rfl rfl HPU.out ?_; rintro v7 w7 hS7))
      go_roundg g1
      case measure => omega
      case rel => exact ⟨j + 1, _, _, by omega, by go_num, rfl, Lib.hid (by rw [List.length_append, HL.out]; rfl), Lib.hid (hS7.le (by omega))⟩
    · have hk0' : ¬ (0 : Int) < (gk : Nat) := by omega
      clear hgr
      go_wp2_with fail
      refine (oddU HS.out.1 30 (by omega) (by omega) (by omega)).mono ?_
      rintro e w6 ⟨od, rfl, hR6, hO6⟩
      have HS6 := Lib.hid (HS.out.rd hO6.toG hR6 hB3)
      have hg6 := HS6.out.2.1
      have hs6 := hg6.size
      clear p0 p1
      have hb5 := (hg6.2.2.2.2 _ hs23 (by omega)).trans HX3.out.2.1
      have hbr := (hg6.2.2.2.2 _ (show w.heap.size < w3.heap.size by omega) (by omega)).trans HX3.out.2.2
      have HG := Lib.hid (HX3.out.1.trans hg6)
      have HFI := Lib.hid (fun W (q : ∀ k, w1.heap.size ≤ k → k < w3.heap.size → W.heap[k]? = w6.heap[k]?) => HF.out W fun k k1 k2 => (q k k1 k2).trans (hg6.2.2.2.2 k k2 (by omega)))
      clear HS hR6 hO6 hg6
      cases od with
      | true =>
        have hmk : ∀ w : World, (Instr.makeSlice 27 (.int .i64 41) (.int .i64 41)).run Tryz.prog w = .ok (.slice (some ⟨w.heap.size, 0, none⟩) 41 41) (w.alloc (.cells (madeCells #[.string ByteArray.empty] 41) 9)) := fun _ => by kernel_rfl
        obtain ⟨w7, hw7⟩ : ∃ W, w6.alloc (.cells (madeCells #[.string ByteArray.empty] 41) 9) = W := ⟨_, rfl⟩
        have hmk6 := hmk w6
        have hx7 : Ext w6 w7 := by rw [← hw7]; exact Ext.alloc _ _
        have hb7 := heap_alloc_new w6 (.cells (madeCells #[.string ByteArray.empty] 41) 9)
        rw [hw7] at hmk6 hb7
        obtain ⟨p0, p1⟩ := two_cells ((hx7.block (heap_lt hb5)).trans hb5)
        obtain ⟨t1, t2, t3, t4, t5, t6, -⟩ := keepB_set2 (b := 0) ((hx7.block (heap_lt hbr)).trans hbr) (.slice A' D.length c') (.slice Bp L.length d)
        have HZ := Lib.hid (zero_texts (((w7.setCell ⟨w.heap.size, 0, none⟩ (.slice A' D.length c')).setCell ⟨w.heap.size, 1, none⟩ (.slice Bp L.length d))) (show 41 ≤ 1000 by omega) (set_far (u := .slice Bp L.length d) (p := ⟨w.heap.size, 1, none⟩) (set_far (u := .slice A' D.length c') (p := ⟨w.heap.size, 0, none⟩) hb7 (by show w6.heap.size ≠ w.heap.size; omega)) (by show w6.heap.size ≠ w.heap.size; omega)))
        have HFF := Lib.hid (HFI.out (((w7.setCell ⟨w.heap.size, 0, none⟩ (.slice A' D.length c')).setCell ⟨w.heap.size, 1, none⟩ (.slice Bp L.length d))) fun k k1 k2 => ((Below.heap_setCell _ _ _ _ (by show k ≠ w.heap.size; omega)).trans (Below.heap_setCell _ _ _ _ (by show k ≠ w.heap.size; omega))).trans (hx7.block (by omega)))
        have HXF := Lib.hid (((((HG.out.on hx7).ext HX1.out.1 (by omega)).setCell' (p := ⟨w.heap.size, 0, none⟩) (Nat.le_refl _) (.slice A' D.length c'))).setCell' (p := ⟨w.heap.size, 1, none⟩) (Nat.le_refl _) (.slice Bp L.length d))
        clear hmk hw7 hx7 hb7 hb5 hbr
        go_wp2_with fail
        refine bodyPost_ret (v := .tuple #[.agg #[.slice A' D.length c', .slice Bp L.length d], .slice (some ⟨w6.heap.size, 0, none⟩) 41 41]) (by simp [results, Tryz.results4, go_sem, t5, t6]) rfl ?_
        exact ⟨A', c', Bp, d, D, L, _, 41, List.replicate 41 [], by rw [List.length_replicate], HFF.out.1, HFF.out.2, HZ.out, ⟨_, rfl⟩, by rw [List.length_replicate]; exact Nat.le_refl _, fun i _ => rep_len 41 i, HXF.out⟩
      | false =>
        obtain ⟨p0, p1⟩ := two_cells hb5
        obtain ⟨t1, t2, t3, t4, t5, t6, -⟩ := keepB_set2 (b := 0) hbr (.slice A' D.length c') (.slice Bp L.length d)
        obtain ⟨hl6, hn6⟩ := LeafT.of_own HS6.out.2.2.1
        have HZ := Lib.hid (Txts.own (hl6.keep (w' := (w6.setCell ⟨w.heap.size, 0, none⟩ (.slice A' D.length c')).setCell ⟨w.heap.size, 1, none⟩ (.slice Bp L.length d)) fun k hk => (Below.heap_setCell _ _ _ _ (by have := hn6 k hk; show k ≠ w.heap.size; omega)).trans (Below.heap_setCell _ _ _ _ (by have := hn6 k hk; show k ≠ w.heap.size; omega))))
        have HFF := Lib.hid (HFI.out (((w6.setCell ⟨w.heap.size, 0, none⟩ (.slice A' D.length c')).setCell ⟨w.heap.size, 1, none⟩ (.slice Bp L.length d))) fun k k1 k2 => ((Below.heap_setCell _ _ _ _ (by show k ≠ w.heap.size; omega)).trans (Below.heap_setCell _ _ _ _ (by show k ≠ w.heap.size; omega))))
        have HXF := Lib.hid ((((HG.out.ext HX1.out.1 (by omega)).setCell' (p := ⟨w.heap.size, 0, none⟩) (Nat.le_refl _) (.slice A' D.length c'))).setCell' (p := ⟨w.heap.size, 1, none⟩) (Nat.le_refl _) (.slice Bp L.length d))
        have HLE := Lib.hid HS6.out.2.2.2.2
        clear hb5 hbr hl6 hn6
        go_wp2_with fail
        refine bodyPost_ret (v := .tuple #[.agg #[.slice A' D.length c', .slice Bp L.length d], .slice (some ⟨q9, 0, none⟩) ts.length c9]) (by simp [results, Tryz.results4, go_sem, t5, t6]) rfl ?_
        exact ⟨A', c', Bp, d, D, L, _, c9, ts, rfl, HFF.out.1, HFF.out.2, HZ.out, ⟨_, rfl⟩, by have := HL.out; omega, fun i hi => HLE.out _ (getD_mem hi), HXF.out⟩
end Go.Proofs.YtnalcgcdohlfiaaGreatDoor
