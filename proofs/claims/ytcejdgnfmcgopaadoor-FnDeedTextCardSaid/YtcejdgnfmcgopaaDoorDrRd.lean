/- What is proved: DrawDeedText and DrawReadDeed (if l20Deed draws a deed). Conditions: those of each contract. -/
import Derived.Test.YtcejdgnfmcgopaaDoorDrDo
import Derived.Test.YtcejdgnfmcgopaaDoorSpo
import Derived.Test.YtcejdgnfmcgopaaDoorDt
import Derived.Test.YtcejdgnfmcgopaaDoorRs
import Derived.Test.YtcejdgnfmcgopaaDoorJt
namespace Go.Proofs.YtcejdgnfmcgopaaDoor
open Go.RowKit
set_option maxRecDepth 100000 in
set_option maxHeartbeats 4000000 in
theorem drawDeedText_any (hDeed : DeedAny) (A : Option Addr) (n c : Nat) (w : World) (h : Byt w A n c) :
    Calls Tryd.prog 4 #[.slice A n c] w fun e w' => ∃ kind X cx xs, e = .returned (.agg #[.int .i64 kind, .slice X (List.length xs) cx]) ∧ Ints w' X cx xs ∧ xs.length ≤ 8 ∧ Ext w w' := by
  obtain ⟨w0, hw0⟩ : ∃ W, w.alloc (.cells #[.int .i64 0, .slice none 0 0] 25) = W := ⟨_, rfl⟩
  have hx0 : Ext w w0 := by rw [← hw0]; exact Ext.alloc _ _
  have hb := heap_alloc_new w (.cells #[.int .i64 0, .slice none 0 0] 25)
  rw [hw0] at hb
  have hs0 : w0.heap.size = w.heap.size + 1 := by rw [← hw0]; simp
  have HO := Lib.hid (open_any A n c w0 (h.ext hx0))
  have HB := Lib.hid hb
  have HX0 := Lib.hid hx0
  have HS0 := Lib.hid hs0
  clear h hx0 hb hs0
  go_enter Tryd.func4, Tryd.ntmps4
  go_wp2_with fail
  clear hw0
  refine HO.out.mono ?_
  rintro e w1 ⟨g, rfl, hx1, hg, hR⟩
  have HR := Lib.hid hR
  have HX1 := Lib.hid hx1
  have HG := Lib.hid hg
  clear hR hx1 hg HO
  go_wp2_with fail
  refine (l20Desk_any hDeed HR.out (Nat.le_refl _) (by omega) 0 (by omega) (by omega)).mono ?_
  rintro e w2 ⟨A', c', Bp, d, D, L, rfl, hF, hS, hR2, hX2⟩
  have hlt := HR.out.lt
  have HDD := Lib.hid (hDeed w2 w1.heap.size g (0 + 250) hR2 hX2.size (by omega) A' c' D (.slice Bp L.length d) (fun W' hW => (hF W' fun k k1 k2 => hW k k2 (by omega)).1) hS.1 hS.2 rfl)
  have HX2 := Lib.hid hX2
  clear hF hS hR2 hX2 hlt
  go_wp2_with fail
  refine HDD.out.mono ?_
  rintro e w3 ⟨kind, X, cx, xs, rfl, hO, -, hl8, -, -, hG3⟩
  have hg1 := HG.out
  have hg2 := HS0.out
  have hg3 := HX1.out.size
  have hg4 := HX2.out.size
  have e1 := (HX1.out.block (heap_lt HB.out)).trans HB.out
  have e2 := (HX2.out.2.2.2.2 _ (heap_lt e1) (by omega)).trans e1
  have e3 := (hG3.2.2.2.2 _ (heap_lt e2) (by omega)).trans e2
  obtain ⟨⟨f1, f2⟩, f1', ⟨f3, f4⟩, f4', f5, f6⟩ := store2 e3 (.int .i64 kind) (.slice X xs.length cx)
  have HI := Lib.hid ((hO.from_.set (p := ⟨w.heap.size, 0, none⟩) (by show w.heap.size < _; omega) (.int .i64 kind)).set (p := ⟨w.heap.size, 1, none⟩) (by show w.heap.size < _; omega) (.slice X xs.length cx))
  have HX3 := Lib.hid (((HX2.out.trans hG3).ext (HX0.out.trans HX1.out) (by omega)))
  clear hg1 hg2 hg3 hg4 e1 e2 e3 hO hG3
  go_wp2_with fail
  refine bodyPost_ret (v := .agg #[.int .i64 kind, .slice X xs.length cx]) (by simp [results, Tryd.results4, go_sem, f5, f6]) rfl ?_
  exact ⟨kind, X, cx, xs, rfl, HI.out.now, hl8, (HX3.out.setCell' (p := ⟨w.heap.size, 0, none⟩) (Nat.le_refl _) _).setCell' (p := ⟨w.heap.size, 1, none⟩) (Nat.le_refl _) _⟩
end Go.Proofs.YtcejdgnfmcgopaaDoor
