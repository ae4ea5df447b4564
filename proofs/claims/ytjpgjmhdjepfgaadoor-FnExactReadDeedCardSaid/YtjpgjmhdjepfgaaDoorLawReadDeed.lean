/- What is proved: the walk of the law FnExactReadDeed. Conditions: those of the contract. -/
import Derived.Test.YtjpgjmhdjepfgaaDoorRp
import Derived.Test.YtjpgjmhdjepfgaaDoorDe
import Derived.Test.YtjpgjmhdjepfgaaDoorMark
namespace Go.Proofs.YtjpgjmhdjepfgaaDoor
open Go.RowKit
set_option maxRecDepth 100000 in
set_option maxHeartbeats 4000000 in
theorem iReadDeed_any (L : List UInt8) (w : World) (hl : L.length ≤ 1048576) (hE : Env w) :
    Calls Tryd.prog 18 #[.string ⟨L.toArray⟩] w (RdE w (rdI L)) := by
  have HC := Lib.hid (fun W (q : Ext w W) => readDeed_any L W hl (hE.ext q))
  clear hE
  go_enter Tryd.func18, Tryd.ntmps18
  have hb := heap_alloc_new w (.cells #[.int .i64 0, .slice none 0 0] 27)
  have HX0 := Lib.hid (show Ext w (w.alloc (.cells #[.int .i64 0, .slice none 0 0] 27)) from Ext.alloc _ _)
  have HB := Lib.hid (fun W (q : Ext (w.alloc (.cells #[.int .i64 0, .slice none 0 0] 27)) W) => (q.block (heap_lt hb)).trans hb)
  have hs0 : (w.alloc (.cells #[.int .i64 0, .slice none 0 0] 27)).heap.size = w.heap.size + 1 := by simp
  have HS0 := Lib.hid hs0
  clear hb hs0
  go_wp2_with fail
  refine (HC.out _ HX0.out).mono ?_
  rintro e w1 ⟨v, rfl, hLf, hLb, hx1⟩
  obtain ⟨r, hr⟩ : ∃ r, rdI L = r := ⟨_, rfl⟩
  rw [hr] at hLf ⊢
  have HRR := Lib.hid hr
  clear hr HC
  obtain ⟨A3, c3, rfl, -⟩ := hLf.ints
  obtain ⟨k, hk⟩ : ∃ k, rk r = k := ⟨_, rfl⟩
  obtain ⟨xs, hxs⟩ : ∃ k, rx r = k := ⟨_, rfl⟩
  obtain ⟨b, hb⟩ : ∃ k, r.isSome = k := ⟨_, rfl⟩
  rw [hxs] at hLf hLb
  rw [hk, hxs, hb]
  have HK := Lib.hid (And.intro hk (And.intro hxs hb))
  have HLF := Lib.hid (And.intro hLf hLb)
  have HX1 := Lib.hid hx1
  obtain ⟨⟨f1, f2⟩, f1', ⟨f3, f4⟩, f4', f5, f6⟩ := store2 (HB.out _ hx1) (.int .i64 k) (.slice A3 xs.length c3)
  clear hk hxs hb hLf hLb hx1
  go_wp2_with fail
  refine bodyPost_ret (v := .tuple #[.agg #[.int .i64 k, .slice A3 xs.length c3], .bool b]) (by simp [results, Tryd.results18, go_sem, f5, f6]) rfl ?_
  show RdE w (rdI L) _ _
  rw [HRR.out]
  have h7 := HS0.out
  refine ⟨.slice A3 xs.length c3, by rw [HK.out.1, HK.out.2.2], ?_, fun g hg => by have := HLF.out.2 g hg; omega, ((HX0.out.trans HX1.out).setCell' (p := ⟨w.heap.size, 0, none⟩) (Nat.le_refl _) _).setCell' (p := ⟨w.heap.size, 1, none⟩) (Nat.le_refl _) _⟩
  rw [HK.out.2.1]
  exact HLF.out.1.keep (fun g hg => (Below.heap_setCell _ _ _ _ (by have := HLF.out.2 g hg; show g ≠ w.heap.size; omega)).trans (Below.heap_setCell _ _ _ _ (by have := HLF.out.2 g hg; show g ≠ w.heap.size; omega)))
theorem rx_len (L : List UInt8) : (rx (rdS L)).length ≤ 6 := by
  cases h : rdS L with
  | none => simp [rx]
  | some p =>
    obtain ⟨h1, h2⟩ := rdS_sound h
    obtain ⟨hb, -⟩ := dtx_parts h2 h1
    unfold dtB at hb
    simp only [Bool.and_eq_true, Bool.or_eq_true, decide_eq_true_eq] at hb
    show p.2.length ≤ 6
    omega
set_option maxRecDepth 100000 in
set_option maxHeartbeats 2000000 in
theorem heldDeed_any (kd : Int) (A : Option Addr) (c n : Nat) (k : Int) (w : World) (h : Leaf w (.slice A n c) (mk k n)) (hk0 : 0 ≤ k) (hk1 : k ≤ 1000000000000) (hn : n ≤ 10000000) :
    Calls Tryd.prog 20 #[.agg #[.int .i64 kd, .slice A n c], .int .i64 k] w fun e w' => e = .returned (.int .i64 (k + n)) ∧ Ext w w' := by
  have hml : (mk k n).length = n := by simp [mk]
  obtain ⟨A', c', e, hI⟩ := h.ints
  injection e with e1 e3 e2
  subst e1 e2
  clear e3
  have HC := Lib.hid (fun W (q : Ext w W) => heldIntS_any A c (mk k n) k W (hI.ext q) hk0 hk1 (by rw [hml]; exact hn))
  rw [heldI_mk, hml] at HC
  have hneg : ¬ k + (n : Int) < 0 := by omega
  clear h hI hml
  go_enter Tryd.func20, Tryd.ntmps20
  go_wp2_with fail
  refine (HC.out _ (Ext.alloc _ _)).mono ?_
  rintro e w1 ⟨rfl, m, rfl⟩
  go_wp2
  go_ret
  exact ⟨rfl, by apply Ext.drewN'; exact Ext.alloc _ _⟩
set_option maxRecDepth 100000 in
set_option maxHeartbeats 4000000 in
theorem FnExactReadDeed_walk (L : List UInt8) (w : World) (hE : Env w) :
    Calls Tryd.prog 5 #[.string ⟨L.toArray⟩] w fun e w' => e = .returned (.bool true) ∧ Ext w w' := by
  have HE := Lib.hid hE
  have hsz := tx_size L
  clear hE
  by_cases hl : L.length ≤ 1048576
  · have hl' : ¬ (1048576 : Int) < (L.length : Nat) := by omega
    have hrl := rx_len L
    go_enter Tryd.func5, Tryd.ntmps5
    go_wp2_with fail
    refine (sReadDeed_any L _ hl).mono ?_
    rintro e w1 ⟨A1, c1, rfl, hI1, hx1⟩
    have HS := Lib.hid (rd_same L)
    have HI := Lib.hid (fun W (q : Ext w W) => iReadDeed_any L W hl (HE.out.ext q))
    rw [HS.out] at HI
    obtain ⟨r, hr⟩ : ∃ r, rdS L = r := ⟨_, rfl⟩
    rw [hr] at hI1 hrl HI ⊢
    obtain ⟨k, hk⟩ : ∃ k, rk r = k := ⟨_, rfl⟩
    obtain ⟨xs, hxs⟩ : ∃ k, rx r = k := ⟨_, rfl⟩
    obtain ⟨b, hb⟩ : ∃ k, r.isSome = k := ⟨_, rfl⟩
    have HI' : Hid (∀ W, Ext w W → Calls Tryd.prog 18 #[.string ⟨L.toArray⟩] W fun e W' => ∃ v, e = .returned (.tuple #[.agg #[.int .i64 k, v], .bool b]) ∧ Leaf W' v xs ∧ (∀ g ∈ lb v, W.heap.size ≤ g) ∧ Ext W W') := Lib.hid (by rw [← hk, ← hxs, ← hb]; exact HI.out)
    rw [hxs] at hI1 hrl
    rw [hk, hxs, hb]
    have HI1 := Lib.hid hI1
    have HX1 := Lib.hid hx1
    obtain ⟨v1, hv1⟩ : ∃ W, w1.alloc (.cells #[.int .i64 k, .slice A1 xs.length c1] 27) = W := ⟨_, rfl⟩
    have hb1 := heap_alloc_new w1 (.cells #[.int .i64 k, .slice A1 xs.length c1] 27)
    have hs1 : v1.heap.size = w1.heap.size + 1 := by rw [← hv1]; simp
    have hy1 : Ext w1 v1 := by rw [← hv1]; exact Ext.alloc _ _
    rw [hv1] at hb1
    have HB1 := Lib.hid (fun W (q : Ext v1 W) => two_cells ((q.block (heap_lt hb1)).trans hb1))
    have HIv := Lib.hid (hI1.ext hy1)
    have HXv := Lib.hid (hx1.trans hy1)
    clear hr hk hxs hb HI HS hI1 hx1 hb1 hy1
    go_wp2_with fail
    clear hv1
    refine (HI'.out _ HXv.out).mono ?_
    rintro e w2 ⟨v2, rfl, hL2, hB2, hx2⟩
    obtain ⟨A2, c2, rfl, hI2⟩ := hL2.ints
    obtain ⟨u2, hu2⟩ : ∃ W, w2.alloc (.cells #[.int .i64 k, .slice A2 xs.length c2] 27) = W := ⟨_, rfl⟩
    have hb2 := heap_alloc_new w2 (.cells #[.int .i64 k, .slice A2 xs.length c2] 27)
    have hy2 : Ext w2 u2 := by rw [← hu2]; exact Ext.alloc _ _
    rw [hu2] at hb2
    have HB2 := Lib.hid hb2
    have HG2 := Lib.hid (fun W (q : Ext u2 W) => two_cells ((q.block (heap_lt hb2)).trans hb2))
    have HL2 := Lib.hid (And.intro (hL2.keep (fun g hg => hy2.block (hL2.lt hg))) (And.intro (fun g hg => And.intro (hB2 g hg) (hL2.lt hg)) (hI2.ext hy2)))
    have HX2 := Lib.hid (hx2.trans hy2)
    obtain ⟨p0, p1⟩ := HB1.out u2 (hx2.trans hy2)
    obtain ⟨z0, z1⟩ := HG2.out u2 (Ext.refl _)
    clear hL2 hB2 hI2 hx2 hb2 hy2
    go_wp2_with fail
    clear hu2
    refine (eqDeed_any k A2 A1 c2 c1 xs u2 HL2.out.2.2 (HIv.out.ext HX2.out)).mono ?_
    rintro e w3 ⟨rfl, hx3⟩
    clear z0 z1 p0 p1
    obtain ⟨p0, p1⟩ := HB1.out w3 (HX2.out.trans hx3)
    obtain ⟨z0, z1⟩ := HG2.out w3 hx3
    have HL3 := Lib.hid (HL2.out.1.keep (fun g hg => hx3.block (HL2.out.1.lt hg)))
    have HX3 := Lib.hid hx3
    clear hx3
    go_wp2_with fail
    refine (markDeed_any k A2 c2 xs 1 w3 HL3.out (by omega) (by omega) (by omega)).mono ?_
    rintro e w4 ⟨rfl, hL4, hx4⟩
    have HL4 := Lib.hid hL4
    have HX14 := Lib.hid (ExtS.ext (w0 := v1) (HX2.out.trans HX3.out) hx4 (fun g hg => (HL2.out.2.1 g hg).1))
    have hb4 : w4.heap[w2.heap.size]? = some (.cells #[.int .i64 k, .slice A2 xs.length c2] 27 (0, 0)) := by
      rw [hx4.2.2.2.2 w2.heap.size (by have := heap_lt HB2.out; have := HX3.out.size; omega) (fun hg => by have := (HL2.out.2.1 _ hg).2; omega), HX3.out.block (heap_lt HB2.out)]
      exact HB2.out
    have HG4 := Lib.hid (fun W (q : Ext w4 W) => two_cells ((q.block (heap_lt hb4)).trans hb4))
    clear z0 z1 p0 p1 hL4 hx4 hb4
    obtain ⟨p0, p1⟩ := HB1.out w4 HX14.out
    obtain ⟨z0, z1⟩ := HG4.out w4 (Ext.refl _)
    go_wp2_with fail
    refine (heldDeed_any k A2 c2 xs.length 1 w4 HL4.out (by omega) (by omega) (by omega)).mono ?_
    rintro e w5 ⟨rfl, hx5⟩
    have hneg : ¬ 1 + (xs.length : Int) < 0 := by omega
    have HX5 := Lib.hid hx5
    clear z0 z1 p0 p1 hx5
    go_wp2_with fail
    refine (HI'.out _ (HXv.out.trans (HX14.out.trans HX5.out))).mono ?_
    rintro e w6 ⟨v6, rfl, hL6, -, hx6⟩
    obtain ⟨A6, c6, rfl, hI6⟩ := hL6.ints
    obtain ⟨u6, hu6⟩ : ∃ W, w6.alloc (.cells #[.int .i64 k, .slice A6 xs.length c6] 27) = W := ⟨_, rfl⟩
    have hb6 := heap_alloc_new w6 (.cells #[.int .i64 k, .slice A6 xs.length c6] 27)
    have hy6 : Ext w6 u6 := by rw [← hu6]; exact Ext.alloc _ _
    rw [hu6] at hb6
    have HI6 := Lib.hid (hI6.ext hy6)
    have HX6 := Lib.hid (hx6.trans hy6)
    obtain ⟨p0, p1⟩ := HB1.out u6 (HX14.out.trans (HX5.out.trans (hx6.trans hy6)))
    obtain ⟨y0, y1⟩ := two_cells hb6
    clear hL6 hI6 hx6 hb6 hy6
    go_wp2_with fail
    clear hu6
    refine (eqDeed_any k A6 A1 c6 c1 xs u6 HI6.out (HIv.out.ext (HX14.out.trans (HX5.out.trans HX6.out)))).mono ?_
    rintro e w7 ⟨rfl, hx7⟩
    clear p0 p1 y0 y1
    have HX47 := Lib.hid (show Ext w4 w7 from HX5.out.trans (HX6.out.trans hx7))
    clear hx7
    obtain ⟨z0, z1⟩ := HG4.out w7 HX47.out
    go_wp2_with fail
    refine (heldDeed_any k A2 c2 xs.length 1 w7 (HL4.out.keep (fun g hg => HX47.out.block (HL4.out.lt hg))) (by omega) (by omega) (by omega)).mono ?_
    rintro e w8 ⟨rfl, hx8⟩
    have HX8 := Lib.hid hx8
    clear z0 z1 hx8
    go_wp2_with fail
    go_ret
    exact ⟨rfl, HXv.out.trans (HX14.out.trans (HX47.out.trans HX8.out))⟩
  · have hl' : (1048576 : Int) < (L.length : Nat) := by omega
    go_enter Tryd.func5, Tryd.ntmps5
    go_wp2_with fail
    go_ret
    exact ⟨rfl, Ext.refl _⟩
end Go.Proofs.YtjpgjmhdjepfgaaDoor
