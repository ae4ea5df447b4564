/- What is proved: l20Weighted draws rows and weights. Conditions: those of the contract. -/
import Derived.Test.YtpfbnaachibbfabDrTree
import Derived.Test.YtpfbnaachibbfabOpen
namespace Go.Proofs.Ytpfbnaachibbfab
open Go.RowKit
theorem OwnI.len {base : Nat} {W : World} {v : Value} {xs : List Int} (h : OwnI base W v xs) : ∃ A c, v = .slice A xs.length c ∧ xs.length ≤ c ∧ c ≤ maxLen := by
  obtain ⟨A, c, e, hI⟩ := h.leaf.1.ints
  exact ⟨A, c, e, hI.1, hI.2.1⟩
/-- a number of the list turned -/
theorem OwnI.set {base n : Nat} {W : World} {A : Option Addr} {c : Nat} {xs : List Int} (h : OwnI base W (.slice A n c) xs) {j : Nat} (hj : j < xs.length) :
    ∃ q, A = some ⟨q, 0, none⟩ ∧ W.cell? ⟨q, j, none⟩ = some (.int .i64 (ix xs j)) ∧ W.frozen? ⟨q, j, none⟩ = false ∧ base ≤ q ∧ ∀ x, OwnI base (W.setCell ⟨q, j, none⟩ (.int .i64 x)) (.slice A n c) (xs.set j x) := by
  obtain ⟨h1, h2⟩ := h
  rcases h2 with ⟨_, h0⟩ | ⟨q, cap, cur, e, hb, hh, hc, hm, hs, ht⟩
  · rw [List.length_map] at h0; omega
  · injection e with e1 e2 e3
    subst e1; subst e2; subst e3
    have hlen : (xs.map (Value.int .i64)).length = xs.length := by simp
    rw [hlen] at ht hc
    have hcj : cur[j]? = some (.int .i64 (ix xs j)) := by
      have e : (cur.toList.take (xs.length * 1))[j]? = (xs.map (Value.int .i64))[j]? := by rw [ht]
      rw [List.getElem?_take, if_pos (by omega)] at e
      rw [← Array.getElem?_toList, e]
      simp [hj, ix_of hj]
    refine ⟨q, rfl, by rw [cell_cells hh, hcj], frozen_cells hh j, hb, fun x => ⟨by simp, .inr ⟨q, c, cur.setIfInBounds j (.int .i64 x), by simp, hb, ?_, by simpa using hc, hm, by simpa using hs, ?_⟩⟩⟩
    · simp [World.setCell, Array.getElem?_modify, hh]
    · have e2 : ((xs.set j x).map (Value.int .i64)).length = xs.length := by simp
      rw [e2, Array.toList_setIfInBounds, List.take_set, ht, List.map_set]
theorem OwnI.ints {base : Nat} {W : World} {A : Option Addr} {n c : Nat} {xs : List Int} (h : OwnI base W (.slice A n c) xs) : n = xs.length ∧ Ints W A c xs := by
  obtain ⟨A', c', e, hI⟩ := h.leaf.1.ints
  injection e with e1 e2 e3
  subst e1; subst e2; subst e3
  exact ⟨rfl, hI⟩
/-- rows that lie below b -/
def Under (b g : Nat) (w : World) (A : Option Addr) (c : Nat) (D : List (List Int)) : Prop := ∀ W : World, (∀ k, k < b → k ≠ g → W.heap[k]? = w.heap[k]?) → Mat W A c D
theorem Under.mat {b g : Nat} {w : World} {A : Option Addr} {c : Nat} {D : List (List Int)} (h : Under b g w A c D) : Mat w A c D := h w fun _ _ _ => rfl
theorem Under.rd {b g : Nat} {w w' : World} {A : Option Addr} {c : Nat} {D : List (List Int)} (h : Under b g w A c D) (k : Only (fun x => x = g) w w') : Under b g w' A c D :=
  fun W hW => h W fun i hi hne => (hW i hi hne).trans (k.2.2.2.2 i hne)
theorem Under.set {b g : Nat} {w : World} {A : Option Addr} {c : Nat} {D : List (List Int)} (h : Under b g w A c D) {p : Addr} (hp : b ≤ p.block) (x : Value) : Under b g (w.setCell p x) A c D :=
  fun W hW => h W fun i hi hne => (hW i hi hne).trans (Below.heap_setCell _ _ _ _ (by omega))
theorem Under.ext {b g : Nat} {w w' : World} {A : Option Addr} {c : Nat} {D : List (List Int)} (h : Under b g w A c D) (hb : b ≤ w.heap.size) (k : Ext w w') : Under b g w' A c D :=
  fun W hW => h W fun i hi hne => (hW i hi hne).trans (k.block (by omega))
theorem ObjM.under {base : Nat} {w w' : World} {A : Option Addr} {c : Nat} {D : List (List Int)} {V : Nat → Value} {g : Nat} (h : ObjM base w A c D V) (hg : g < base) (k : ExtG g w w') : Under w.heap.size g w' A c D :=
  fun W hW => (h.keep fun q hb hq => (hW q hq (by omega)).trans (k.2.2.2.2 q hq (by omega))).mat
/-- rows and numbers drawn -/
def DrawnW (w : World) (B g : Nat) (u : Int) (e : Ending) (w' : World) : Prop :=
  ∃ A c D A2 c2 ws b, e = .returned (.tuple #[.slice A (List.length D) c, .slice A2 (List.length ws) c2]) ∧ Under b g w' A c D ∧ D.length ≤ 6 ∧ w.heap.size ≤ b ∧ b ≤ w'.heap.size ∧ OwnI b w' (.slice A2 ws.length c2) ws ∧ ws.length ≤ 7 ∧ RdU w' B g u ∧ ExtG g w w'
set_option maxRecDepth 100000 in
set_option maxHeartbeats 4000000 in
theorem l20Weighted_any {w : World} {B g : Nat} {u : Int} (hR : RdU w B g u) (hB : B ≤ w.heap.size) (hu : u ≤ 200000) :
    Calls Try.prog 107 #[.pointer (some ⟨g, 0, none⟩)] w (DrawnW w B g (u + 120)) := by
  have hg := hR.lt
  have HR := Lib.hid hR
  clear hR
  go_enter Try.func107, Try.ntmps107
  go_wp2_with fail
  refine (l20Tree_any HR.out hB (by omega) 14 (by omega) (by omega)).mono ?_
  rintro e w1 ⟨A, c, V, D, rfl, hO, hD, hR1, hX1⟩
  have HO := Lib.hid hO
  have HX1 := Lib.hid hX1
  have sz1 := hX1.size
  have hc0 : D.length ≤ c ∧ c ≤ maxLen := ⟨hO.1, hO.2.1⟩
  obtain ⟨hc1, hc2⟩ := hc0
  unfold maxLen at hc2
  have HT := Lib.hid (show TwoI w1 B g (u + 90 + 0) (.slice (some ⟨w1.heap.size, 0, none⟩) 0 0) (.slice none 0 0) [] [] (w1.alloc (.cells #[] 3)) from
    ⟨World.ownsRow_made w1 #[] 0 (Nat.le_refl _) (Nat.zero_le _) rfl, World.ownsRow_nil _ _ _ _, fun q _ h => (by simp [Value.ownBlock] at h), (hR1.ext (Ext.alloc _ _) (by omega)).le (by omega), (ExtG.refl g w1).alloc _⟩)
  clear hO hR1 hX1 HR
  have hBw : B ≤ w1.heap.size := by omega
  go_wp2
  go_loopg [5, 6] D.length (fun gm s5 s6 wr => ∃ (k : Nat) (xs : List Int), k + gm = D.length ∧ s6 = .int .i64 k ∧ xs.length = k ∧ Hid (TwoI w1 B g (u + 90 + k) s5 (.slice none 0 0) xs [] wr))
  case atStart => exact ⟨0, [], by omega, rfl, rfl, HT⟩
  case round =>
    obtain ⟨k, xs, hk, rfl, hxl, HS⟩ := hrel
    have HXL := Lib.hid hxl
    clear HT hxl
    by_cases hkn : k < D.length
    · obtain ⟨g1, rfl⟩ : ∃ g', gk = g' + 1 := ⟨gk - 1, by omega⟩
      have hkn' : (k : Int) < (D.length : Nat) := by omega
      go_wp2_with fail
      refine (pickU HS.out.2.2.2.1 4 (by omega) (by omega) (by omega)).mono ?_
      rintro e w2 ⟨a, rfl, a0, a1, hR2, hO2⟩
      have HS2 := Lib.hid (HS.out.rd hO2 hR2 hBw)
      clear hR2 hO2 HS
      go_wp2_with (at_builtin; refine TwoI.push rfl Try.underlying26 infoI rfl (.tmp 16) (.tmp 19) rfl _ rfl rfl HS2.out hBw (by have := HXL.out; omega) ?_; intro v' w' hacc; have HS3 := Lib.hid hacc; clear hacc)
      go_roundg g1
      case measure => omega
      case rel => exact ⟨k + 1, xs ++ [a], by omega, by go_num, by have := HXL.out; simp; omega, Lib.hid (HS3.out.le (by omega))⟩
    · have hkn' : ¬ (k : Int) < (D.length : Nat) := by omega
      obtain rfl : k = D.length := by omega
      -- the list behind the loop, in a world wz at most u + 97 bytes on
      have fin : ∀ (xs : List Int) (s5 : Value) (W : World) (A2 : Option Addr) (n2 c2 : Nat), s5 = .slice A2 n2 c2 → xs.length ≤ 7 → TwoI w1 B g (u + 120) s5 (.slice none 0 0) xs [] W → DrawnW w B g (u + 120) (.returned (.tuple #[.slice A D.length c, .slice A2 n2 c2])) W := by
        rintro xs s5 W A2 n2 c2 rfl hl ⟨t1, -, -, t4, t5⟩
        obtain ⟨rfl, -⟩ := t1.ints
        exact ⟨A, c, D, A2, c2, xs, w1.heap.size, rfl, HO.out.under (by omega) t5, hD, by omega, t5.size, t1, hl, t4, HX1.out.trans t5⟩
      have HF := Lib.hid fin
      obtain ⟨A2, c2, rfl, l1, l2⟩ := HS.out.1.len
      unfold maxLen at l2
      have hx7 : xs.length ≤ 6 := by have := HXL.out; omega
      clear fin HO HX1 HXL
      by_cases h0 : 0 < xs.length
      · have h0' : (0 : Int) < (xs.length : Nat) := by omega
        go_wp2_with fail
        refine (pickU HS.out.2.2.2.1 3 (by omega) (by omega) (by omega)).mono ?_
        rintro e w2 ⟨a, rfl, a0, a1, hR2, hO2⟩
        have HS2 := Lib.hid (HS.out.rd hO2 hR2 hBw)
        clear hR2 hO2 HS
        by_cases z : a = 0
        · subst z
          clear a0 a1
          go_wp2_with fail
          refine (pickU HS2.out.2.2.2.1 (xs.length : Int) (by omega) (by omega) (by omega)).mono ?_
          rintro e w3 ⟨p, rfl, p0, p1, hR3, hO3⟩
          have HS3 := Lib.hid (HS2.out.rd hO3 hR3 hBw)
          clear hR3 hO3 HS2
          obtain ⟨i, rfl⟩ : ∃ i : Nat, p = (i : Int) := ⟨p.toNat, by omega⟩
          have hi : i < xs.length := by omega
          have hi' : (i : Int) < (xs.length : Nat) := by omega
          obtain ⟨q, rfl, cc, ff, qb, hset⟩ := HS3.out.1.set hi
          have HT9 := Lib.hid (show TwoI w1 B g (u + 90 + (D.length : Int) + 1 + 1) (.slice (some ⟨q, 0, none⟩) xs.length c2) (.slice none 0 0) (xs.set i 9) [] (w3.setCell ⟨q, i, none⟩ (.int .i64 9)) from
            ⟨hset 9, World.ownsRow_nil _ _ _ _, fun q _ h => (by simp [Value.ownBlock] at h), HS3.out.2.2.2.1.set (p := ⟨q, i, none⟩) (by show B ≤ q; omega) _, HS3.out.2.2.2.2.set (p := ⟨q, i, none⟩) qb _⟩)
          have hl9 : (xs.set i 9).length = xs.length := by simp
          have HL9 := Lib.hid hl9
          clear hset HS3 hl9 p0 p1
          go_wp2_with fail
          refine (oddU HT9.out.2.2.2.1 20 (by omega) (by omega) (by omega)).mono ?_
          rintro e w4 ⟨o, rfl, hR4, hO4⟩
          have HS4 := Lib.hid (HT9.out.rd hO4 hR4 hBw)
          clear hR4 hO4 HT9 cc ff
          cases o with
          | false =>
            go_wp2
            go_ret2
            exact HF.out (xs.set i 9) _ _ _ _ _ rfl (by rw [HL9.out]; omega) (HS4.out.le (u' := u + 120) (by omega))
          | true =>
            go_wp2_with (at_builtin; refine TwoI.push rfl Try.underlying26 infoI rfl (.tmp 38) (.tmp 39) rfl _ rfl rfl HS4.out hBw (by rw [HL9.out]; omega) ?_; intro v' w' hacc; obtain ⟨A5, c5, ev, -, -⟩ := hacc.1.len; subst ev; have HS5 := Lib.hid hacc; clear hacc)
            go_ret2
            exact HF.out (xs.set i 9 ++ [1]) _ _ _ _ _ rfl (by rw [List.length_append, HL9.out, List.length_singleton]; omega) (by have q := HS5.out.le (u' := u + 120) (by omega); rw [List.length_append, HL9.out] at q; exact q)
        · have z' : (a == 0) = false := beq_eq_false_iff_ne.2 z
          clear z a0 a1
          go_wp2_with fail
          refine (oddU HS2.out.2.2.2.1 20 (by omega) (by omega) (by omega)).mono ?_
          rintro e w4 ⟨o, rfl, hR4, hO4⟩
          have HS4 := Lib.hid (HS2.out.rd hO4 hR4 hBw)
          clear hR4 hO4 HS2
          cases o with
          | false =>
            go_wp2
            go_ret2
            exact HF.out xs _ _ _ _ _ rfl (by omega) (HS4.out.le (u' := u + 120) (by omega))
          | true =>
            go_wp2_with (at_builtin; refine TwoI.push rfl Try.underlying26 infoI rfl (.tmp 38) (.tmp 39) rfl _ rfl rfl HS4.out hBw (by omega) ?_; intro v' w' hacc; obtain ⟨A5, c5, ev, -, -⟩ := hacc.1.len; subst ev; have HS5 := Lib.hid hacc; clear hacc)
            go_ret2
            exact HF.out (xs ++ [1]) _ _ _ _ _ rfl (by rw [List.length_append, List.length_singleton]; omega) (by have q := HS5.out.le (u' := u + 120) (by omega); rw [List.length_append] at q; exact q)
      · have h0' : ¬ (0 : Int) < (xs.length : Nat) := by omega
        go_wp2_with fail
        refine (oddU HS.out.2.2.2.1 20 (by omega) (by omega) (by omega)).mono ?_
        rintro e w4 ⟨o, rfl, hR4, hO4⟩
        have HS4 := Lib.hid (HS.out.rd hO4 hR4 hBw)
        clear hR4 hO4 HS
        cases o with
        | false =>
          go_wp2
          go_ret2
          exact HF.out xs _ _ _ _ _ rfl (by omega) (HS4.out.le (u' := u + 120) (by omega))
        | true =>
          go_wp2_with (at_builtin; refine TwoI.push rfl Try.underlying26 infoI rfl (.tmp 38) (.tmp 39) rfl _ rfl rfl HS4.out hBw (by omega) ?_; intro v' w' hacc; obtain ⟨A5, c5, ev, -, -⟩ := hacc.1.len; subst ev; have HS5 := Lib.hid hacc; clear hacc)
          go_ret2
          exact HF.out (xs ++ [1]) _ _ _ _ _ rfl (by rw [List.length_append, List.length_singleton]; omega) (by have q := HS5.out.le (u' := u + 120) (by omega); rw [List.length_append] at q; exact q)
end Go.Proofs.Ytpfbnaachibbfab
