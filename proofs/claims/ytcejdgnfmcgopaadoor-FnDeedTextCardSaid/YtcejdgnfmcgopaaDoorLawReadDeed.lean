/- What is proved: the walk of the law FnExactReadDeed. Conditions: those of the contract. -/
import Derived.Test.YtcejdgnfmcgopaaDoorRp
import Derived.Test.YtcejdgnfmcgopaaDoorDe
import Derived.Test.YtcejdgnfmcgopaaDoorPa
namespace Go.Proofs.YtcejdgnfmcgopaaDoor
open Go.RowKit
set_option maxRecDepth 100000 in
set_option maxHeartbeats 4000000 in
theorem iReadDeed_any (L : List UInt8) (w : World) (hl : L.length ≤ 1048576) (hE : Env w) :
    Calls Tryd.prog 8 #[.string ⟨L.toArray⟩] w (RdE w (rdI L)) := by
  have HC := Lib.hid (fun W (q : Ext w W) => readDeed_any L W hl (hE.ext q))
  clear hE
  go_enter Tryd.func8, Tryd.ntmps8
  have hb := heap_alloc_new w (.cells #[.int .i64 0, .slice none 0 0] 25)
  have HX0 := Lib.hid (show Ext w (w.alloc (.cells #[.int .i64 0, .slice none 0 0] 25)) from Ext.alloc _ _)
  have HB := Lib.hid (fun W (q : Ext (w.alloc (.cells #[.int .i64 0, .slice none 0 0] 25)) W) => (q.block (heap_lt hb)).trans hb)
  have hs0 : (w.alloc (.cells #[.int .i64 0, .slice none 0 0] 25)).heap.size = w.heap.size + 1 := by simp
  have HS0 := Lib.hid hs0
  clear hb hs0
  go_wp2_with fail
  refine (HC.out _ HX0.out).mono ?_
  rintro e w1 ⟨v, rfl, hLf, hLb, hx1⟩
  obtain ⟨r, hr⟩ : ∃ r, rdI L = r := ⟨_, rfl⟩
  rw [hr] at hLf ⊢
  have HRR := Lib.hid hr
  clear hr HC
  obtain ⟨A3, c3, rfl, -⟩ := hLf.ints
  obtain ⟨k, hk⟩ : ∃ k, rk r = k := ⟨_, rfl⟩
  obtain ⟨xs, hxs⟩ : ∃ k, rx r = k := ⟨_, rfl⟩
  obtain ⟨b, hb⟩ : ∃ k, r.isSome = k := ⟨_, rfl⟩
  rw [hxs] at hLf hLb
  rw [hk, hxs, hb]
  have HK := Lib.hid (And.intro hk (And.intro hxs hb))
  have HLF := Lib.hid (And.intro hLf hLb)
  have HX1 := Lib.hid hx1
  obtain ⟨⟨f1, f2⟩, f1', ⟨f3, f4⟩, f4', f5, f6⟩ := store2 (HB.out _ hx1) (.int .i64 k) (.slice A3 xs.length c3)
  clear hk hxs hb hLf hLb hx1
  go_wp2_with fail
  refine bodyPost_ret (v := .tuple #[.agg #[.int .i64 k, .slice A3 xs.length c3], .bool b]) (by simp [results, Tryd.results8, go_sem, f5, f6]) rfl ?_
  show RdE w (rdI L) _ _
  rw [HRR.out]
  have h7 := HS0.out
  refine ⟨.slice A3 xs.length c3, by rw [HK.out.1, HK.out.2.2], ?_, fun g hg => by have := HLF.out.2 g hg; omega, ((HX0.out.trans HX1.out).setCell' (p := ⟨w.heap.size, 0, none⟩) (Nat.le_refl _) _).setCell' (p := ⟨w.heap.size, 1, none⟩) (Nat.le_refl _) _⟩
  rw [HK.out.2.1]
  exact HLF.out.1.keep (fun g hg => (Below.heap_setCell _ _ _ _ (by have := HLF.out.2 g hg; show g ≠ w.heap.size; omega)).trans (Below.heap_setCell _ _ _ _ (by have := HLF.out.2 g hg; show g ≠ w.heap.size; omega)))
theorem rx_len (L : List UInt8) : (rx (rdS L)).length ≤ 6 := by
  cases h : rdS L with
  | none => simp [rx]
  | some p =>
    obtain ⟨h1, h2⟩ := rdS_sound h
    obtain ⟨hb, -⟩ := dtx_parts h2 h1
    unfold dtB at hb
    simp only [Bool.and_eq_true, Bool.or_eq_true, decide_eq_true_eq] at hb
    show p.2.length ≤ 6
    omega
end Go.Proofs.YtcejdgnfmcgopaaDoor
