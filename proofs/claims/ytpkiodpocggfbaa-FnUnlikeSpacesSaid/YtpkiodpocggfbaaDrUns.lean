/- What is proved: l20Order draws numbers; DrawUnlikeSpaces returns two lists of rows to be read. Conditions: those of each contract. -/
import Derived.Test.YtpkiodpocggfbaaOrdS
import Derived.Test.YtpkiodpocggfbaaDrWt
import Derived.Test.YtpkiodpocggfbaaDrSpc
import Derived.Test.YtpkiodpocggfbaaOpen
namespace Go.Proofs.Ytpkiodpocggfbaa
open Go.RowKit
def DrawnO (w : World) (B g : Nat) (u : Int) (e : Ending) (w' : World) : Prop :=
  ∃ A c xs, e = .returned (.slice A (List.length xs) c) ∧ OwnI w.heap.size w' (.slice A xs.length c) xs ∧ RdU w' B g u ∧ ExtG g w w'
set_option maxRecDepth 100000 in
set_option maxHeartbeats 4000000 in
theorem l20Order_any {w : World} {B g : Nat} {u : Int} (hR : RdU w B g u) (hB : B ≤ w.heap.size) (hu : u ≤ 200000) (n : Nat) (hn : n ≤ 6) :
    Calls Try.prog 15 #[.pointer (some ⟨g, 0, none⟩), .int .i64 n] w (DrawnO w B g (u + 6)) := by
  have hg := hR.lt
  have HT := Lib.hid (show TwoI w B g (u + 0) (.slice (some ⟨w.heap.size, 0, none⟩) 0 0) (.slice none 0 0) [] [] (w.alloc (.cells #[] 3)) from
    ⟨World.ownsRow_made w #[] 0 (Nat.le_refl _) (Nat.zero_le _) rfl, World.ownsRow_nil _ _ _ _, fun q _ h => (by simp [Value.ownBlock] at h), (hR.ext (Ext.alloc _ _) hB).le (by omega), (ExtG.refl g w).alloc _⟩)
  clear hR
  go_enter Try.func15, Try.ntmps15
  go_wp2
  go_loopg [6, 5] n (fun gm s6 s5 wr => ∃ (k : Nat) (xs : List Int), k + gm = n ∧ s6 = .int .i64 k ∧ xs.length = k ∧ Hid (TwoI w B g (u + k) s5 (.slice none 0 0) xs [] wr))
  case atStart => exact ⟨0, [], by omega, rfl, rfl, HT⟩
  case round =>
    obtain ⟨k, xs, hk, rfl, hxl, HS⟩ := hrel
    have HXL := Lib.hid hxl
    clear HT hxl
    by_cases hkn : k < n
    · obtain ⟨g1, rfl⟩ : ∃ g', gk = g' + 1 := ⟨gk - 1, by omega⟩
      have hkn' : (k : Int) < (n : Nat) := by omega
      go_wp2_with fail
      refine (pickU HS.out.2.2.2.1 ((k : Int) + 1) (by omega) (by omega) (by omega)).mono ?_
      rintro e w2 ⟨a, rfl, a0, a1, hR2, hO2⟩
      have HS2 := Lib.hid (HS.out.rd hO2 hR2 hB)
      clear hR2 hO2 HS
      have ak : a ≤ k := by omega
      obtain ⟨at', rfl⟩ : ∃ a' : Nat, a = (a' : Int) := ⟨a.toNat, by omega⟩
      clear a0 a1
      go_wp2_with (at_builtin; refine TwoI.push rfl Try.underlying28 infoI rfl (.tmp 19) (.tmp 21) rfl _ rfl rfl HS2.out hB (by have := HXL.out; omega) ?_; intro v' w' hacc; have HS3 := Lib.hid hacc; clear hacc)
      obtain ⟨A, c, hv, -, hcm⟩ := HS3.out.1.len
      have HL1 := Lib.hid (show (xs ++ [(k : Int)]).length = k + 1 by rw [List.length_append, HXL.out]; rfl)
      rw [HL1.out] at hv
      subst hv
      unfold maxLen at hcm
      obtain ⟨ys, hys⟩ : ∃ ys, xs ++ [(k : Int)] = ys := ⟨_, rfl⟩
      rw [hys] at HS3 HL1
      clear hys HS2 HXL
      have HS3' := Lib.hid (HS3.out.le (u' := u + (k + 1 : Nat)) (by omega))
      clear HS3
      have hc1 : k + 1 ≤ c := by
        have h := HS3'.out.1.ints.2.1
        rw [HL1.out] at h
        exact h
      obtain ⟨j0, hj0⟩ : ∃ j0 : Nat, (k : Int) = (j0 : Int) ∧ j0 = k := ⟨k, rfl, rfl⟩
      go_loopg [8] (k + 1) (fun gm s8 wr => ∃ (j : Nat) (ys : List Int), j + 1 = gm ∧ at' ≤ j ∧ j ≤ k ∧ s8 = .int .i64 j ∧ Hid (ys.length = k + 1 ∧ TwoI w B g (u + (k + 1 : Nat)) (.slice A (k + 1) c) (.slice none 0 0) ys [] wr))
      case atStart => exact ⟨k, ys, by omega, by omega, Nat.le_refl _, rfl, Lib.hid ⟨HL1.out, HS3'.out⟩⟩
      case round =>
        clear HS3' HL1 hj0
        obtain ⟨j, zs, hj, hj1, hj2, rfl, HZ⟩ := hrel
        by_cases hat : at' < j
        · obtain ⟨i, rfl⟩ : ∃ i, j = i + 1 := ⟨j - 1, by omega⟩
          have hi1 : i + 1 < zs.length := by rw [HZ.out.1]; omega
          have hi0 : i < zs.length := by omega
          obtain ⟨q, rfl, cc, ff, qb, hset⟩ := HZ.out.2.1.set hi1
          obtain ⟨q', e', cc', -, -, -⟩ := HZ.out.2.1.set hi0
          obtain rfl : q' = q := by injection e' with e'; injection e' with e' _; exact e'.symm
          have HN := Lib.hid (show (zs.set (i + 1) (ix zs i)).length = k + 1 ∧ TwoI w B g (u + (k + 1 : Nat)) (.slice (some ⟨q', 0, none⟩) (k + 1) c) (.slice none 0 0) (zs.set (i + 1) (ix zs i)) [] (wr.setCell ⟨q', i + 1, none⟩ (.int .i64 (ix zs i))) from
            ⟨by rw [List.length_set, HZ.out.1], hset _, World.ownsRow_nil _ _ _ _, fun q _ h => (by simp [Value.ownBlock] at h), HZ.out.2.2.2.2.1.set (p := ⟨q', i + 1, none⟩) (by show B ≤ q'; omega) _, HZ.out.2.2.2.2.2.set (p := ⟨q', i + 1, none⟩) qb _⟩)
          obtain ⟨X, hX⟩ : ∃ X, ix zs i = X := ⟨_, rfl⟩
          rw [hX] at HN cc'
          obtain ⟨Y, hY⟩ : ∃ Y, ix zs (i + 1) = Y := ⟨_, rfl⟩
          rw [hY] at cc
          have hcast : ((i + 1 : Nat) : Int) = (i : Int) + 1 := by omega
          rw [hcast]
          have hat' : (at' : Int) < (i : Int) + 1 := by omega
          clear hX hY hset hcast hi1 hi0 HZ e'
          go_wp2
          go_roundg (i + 1)
          case measure => omega
          case rel => exact ⟨i, _, rfl, by omega, by omega, by go_num, HN⟩
        · obtain rfl : j = at' := by omega
          have hat' : ¬ (j : Int) < (j : Int) := by omega
          have hi0 : j < zs.length := by rw [HZ.out.1]; omega
          obtain ⟨q, rfl, cc, ff, qb, hset⟩ := HZ.out.2.1.set hi0
          have HN := Lib.hid (show (zs.set j (k : Int)).length = k + 1 ∧ TwoI w B g (u + (k + 1 : Nat)) (.slice (some ⟨q, 0, none⟩) (k + 1) c) (.slice none 0 0) (zs.set j (k : Int)) [] (wr.setCell ⟨q, j, none⟩ (.int .i64 k)) from
            ⟨by rw [List.length_set, HZ.out.1], hset _, World.ownsRow_nil _ _ _ _, fun q _ h => (by simp [Value.ownBlock] at h), HZ.out.2.2.2.2.1.set (p := ⟨q, j, none⟩) (by show B ≤ q; omega) _, HZ.out.2.2.2.2.2.set (p := ⟨q, j, none⟩) qb _⟩)
          obtain ⟨Y, hY⟩ : ∃ Y, ix zs j = Y := ⟨_, rfl⟩
          rw [hY] at cc
          have hjk : j < k + 1 := by omega
          clear hY hset hi0 HZ hj
          go_wp2
          go_roundg g1
          case measure => omega
          case rel => exact ⟨k + 1, _, by omega, by go_num, HN.out.1, Lib.hid HN.out.2⟩
    · have hkn' : ¬ (k : Int) < (n : Nat) := by omega
      obtain rfl : k = n := by omega
      obtain ⟨A, c, rfl, l1, l2⟩ := HS.out.1.len
      have HF := Lib.hid (show DrawnO w B g (u + 6) (.returned (.slice A xs.length c)) wr from ⟨A, c, xs, rfl, HS.out.1, HS.out.2.2.2.1.le (by omega), HS.out.2.2.2.2⟩)
      rw [HXL.out] at HF
      rw [HXL.out]
      clear HS HXL
      go_wp2
      go_ret
      exact HF.out
end Go.Proofs.Ytpkiodpocggfbaa
