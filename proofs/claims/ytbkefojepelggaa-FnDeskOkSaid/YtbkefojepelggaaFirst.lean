/- What is proved: spec.l7Same, spec.l7Less; impl.FirstOf and spec.FirstOf return the first of the orders of a space. Conditions: those of each contract. -/
import Derived.Test.YtbkefojepelggaaLess
namespace Go.Proofs.Ytbkefojepelggaa
open Go.RowKit
def samQ (X Y : List (List Int)) (n : Nat) : Nat → Nat → Bool := allR (fun k => allR (fun j => decide (at2 X k j = at2 Y k j)) n 0)
theorem samQ_eq {X Y : List (List Int)} {n : Nat} (hX : X.length = n) (hY : Y.length = n) (h1 : ∀ i, i < n → (row X i).length = n) (h2 : ∀ i, i < n → (row Y i).length = n) : samQ X Y n n 0 = decide (X = Y) := by
  rw [Bool.eq_iff_iff, decide_eq_true_iff]
  unfold samQ
  rw [allR_all]
  constructor
  · intro h
    refine mat_ext (by omega) (fun i hi => by rw [h1 i (by omega), h2 i (by omega)]) fun i hi k hk => ?_
    have := (allR_all _ _).1 (h i (by omega)) k (by rw [h1 i (by omega)] at hk; exact hk)
    exact of_decide_eq_true this
  · rintro rfl i hi
    exact (allR_all _ _).2 fun k hk => decide_eq_true rfl
set_option maxHeartbeats 4000000 in
theorem l7Same_any (A B : Option Addr) (c d n : Nat) (X Y : List (List Int)) (w : World) (hX : Mat w A c X) (hY : Mat w B d Y) (eX : X.length = n) (eY : Y.length = n) (h1 : Sq X) (h2 : Sq Y) :
    Calls Try.prog 43 #[.slice A n c, .slice B n d] w fun e w' => e = .returned (.bool (samQ X Y n n 0)) ∧ ∃ m, w' = w.drewN m := by
  obtain ⟨bk, o, rc, rb, ro, hA, hrow, -, hcell, -⟩ := hX.square h1
  obtain ⟨bk2, o2, rc2, rb2, ro2, hB, hrow2, -, hcell2, -⟩ := hY.square h2
  have l1 := hX.1
  have l2 := hX.2.1
  have l3 := hY.1
  have l4 := hY.2.1
  unfold maxLen at l2 l4
  rw [eX] at hA hrow hcell l1
  rw [eY] at hB hrow2 hcell2 l3
  have HR := Lib.hid hrow
  have HC := Lib.hid hcell
  have HR2 := Lib.hid hrow2
  have HC2 := Lib.hid hcell2
  clear hrow hcell hrow2 hcell2 hX hY eX eY h1 h2
  have HS0 := Lib.hid (fun g k => show samQ X Y n (g + 1) k = (allR (fun j => decide (at2 X k j = at2 Y k j)) n 0 && samQ X Y n g (k + 1)) from rfl)
  have HL0 := Lib.hid (fun g k => show lsQ X Y n (g + 1) k = match lsI (row X k) (row Y k) n 0 with | some b => b | none => lsQ X Y n g (k + 1) from rfl)
  have HS1 := Lib.hid (fun g k j => show allR (fun j => decide (at2 X k j = at2 Y k j)) (g + 1) j = (decide (at2 X k j = at2 Y k j) && allR (fun j => decide (at2 X k j = at2 Y k j)) g (j + 1)) from rfl)
  have HL1 := Lib.hid (fun g k j => show lsI (row X k) (row Y k) (g + 1) j = if at2 X k j ≠ at2 Y k j then some (decide (at2 X k j < at2 Y k j)) else lsI (row X k) (row Y k) g (j + 1) from rfl)
  go_enter Try.func43, Try.ntmps43
  go_wp2
  go_loopg [5] (n) (fun g s5 wr => ∃ (k m : Nat), k + g = n ∧ s5 = .int .i64 k ∧ wr = w.drewN m ∧ Hid (samQ X Y n g k = samQ X Y n n 0))
  case atStart => exact ⟨0, _, by omega, rfl, by first | rfl | exact drewN_0 _ | exact drewN_add _ _ _, Lib.hid (rfl)⟩
  case round =>
    obtain ⟨k, mk, hk, rfl, rfl, Hk⟩ := hrel
    by_cases hink : k < n
    · obtain ⟨gk, rfl⟩ : ∃ g', gk = g' + 1 := ⟨gk - 1, by omega⟩
      have hink' : (k : Int) < (n : Nat) := by omega
      obtain rfl := hA (by omega)
      obtain rfl := hB (by omega)
      go_wp2
      go_loopg [6] (n) (fun g s6 wr => ∃ (j m : Nat), j + g = n ∧ s6 = .int .i64 j ∧ wr = w.drewN m ∧ Hid (allR (fun j => decide (at2 X k j = at2 Y k j)) g j = allR (fun j => decide (at2 X k j = at2 Y k j)) n 0))
      case atStart => exact ⟨0, _, by omega, rfl, by first | rfl | exact drewN_0 _ | exact drewN_add _ _ _, Lib.hid (rfl)⟩
      case round =>
        obtain ⟨j, mj, hj, rfl, rfl, Hj⟩ := hrel
        by_cases hinj : j < n
        · obtain ⟨gj, rfl⟩ : ∃ g', gk = g' + 1 := ⟨gk - 1, by omega⟩
          have hinj' : (j : Int) < (n : Nat) := by omega
          have r1 := HR.out k hink
          have r2 := HR2.out k hink
          have c1 := HC.out k hink j hinj
          have c2 := HC2.out k hink j hinj
          have Hst := Lib.hid (HS1.out gj k j)
          obtain ⟨x, hx⟩ : ∃ x, at2 X k j = x := ⟨_, rfl⟩
          obtain ⟨y, hy⟩ : ∃ x, at2 Y k j = x := ⟨_, rfl⟩
          rw [hx] at c1 Hst
          rw [hy] at c2 Hst
          clear hx hy
          by_cases q : x = y
          · have HN := Lib.hid (show allR (fun j => decide (at2 X k j = at2 Y k j)) (gj + 1) j = allR (fun j => decide (at2 X k j = at2 Y k j)) gj (j + 1) by rw [Hst.out, decide_eq_true q, Bool.true_and])
            have q' : (x != y) = false := by simp [q]
            clear q
            go_wp2
            go_quiet (fail)
            go_wp2
            go_roundg gj
            case measure => omega
            case rel => exact ⟨j + 1, _, by omega, by go_num, by first | rfl | exact drewN_0 _ | exact drewN_add _ _ _, Lib.hid (by rw [← HN.out]; exact Hj.out)⟩
          · have q' : (x != y) = true := by simp [q]
            have HN := Lib.hid (show samQ X Y n n 0 = false by rw [← Hk.out, HS0.out, ← Hj.out, Hst.out, decide_eq_false q]; rfl)
            clear q
            go_wp2
            go_quiet (fail)
            go_wp2
            go_ret
            exact ⟨ret_bool HN.out.symm, _, by first | rfl | exact drewN_add _ _ _ | rw [drewN_add, drewN_add]⟩
        · have hinj' : ¬ (j : Int) < (n : Nat) := by omega
          obtain rfl : gk = 0 := by omega
          have HT := Lib.hid (show allR (fun j => decide (at2 X k j = at2 Y k j)) n 0 = true by rw [← Hj.out]; rfl)
          go_wp2
          go_roundg gk
          case measure => omega
          case rel => exact ⟨k + 1, _, by omega, by go_num, by first | rfl | exact drewN_0 _ | exact drewN_add _ _ _, Lib.hid (by rw [← Hk.out, HS0.out, HT.out, Bool.true_and])⟩
    · have hink' : ¬ (k : Int) < (n : Nat) := by omega
      obtain rfl : gk = 0 := by omega
      go_wp2
      go_ret
      exact ⟨ret_bool (by rw [← Hk.out]; rfl), _, rfl⟩
set_option maxHeartbeats 4000000 in
theorem l7Less_any (A B : Option Addr) (c d n : Nat) (X Y : List (List Int)) (w : World) (hX : Mat w A c X) (hY : Mat w B d Y) (eX : X.length = n) (eY : Y.length = n) (h1 : Sq X) (h2 : Sq Y) :
    Calls Try.prog 90 #[.slice A n c, .slice B n d] w fun e w' => e = .returned (.bool (lsQ X Y n n 0)) ∧ ∃ m, w' = w.drewN m := by
  obtain ⟨bk, o, rc, rb, ro, hA, hrow, -, hcell, -⟩ := hX.square h1
  obtain ⟨bk2, o2, rc2, rb2, ro2, hB, hrow2, -, hcell2, -⟩ := hY.square h2
  have l1 := hX.1
  have l2 := hX.2.1
  have l3 := hY.1
  have l4 := hY.2.1
  unfold maxLen at l2 l4
  rw [eX] at hA hrow hcell l1
  rw [eY] at hB hrow2 hcell2 l3
  have HR := Lib.hid hrow
  have HC := Lib.hid hcell
  have HR2 := Lib.hid hrow2
  have HC2 := Lib.hid hcell2
  clear hrow hcell hrow2 hcell2 hX hY eX eY h1 h2
  have HS0 := Lib.hid (fun g k => show samQ X Y n (g + 1) k = (allR (fun j => decide (at2 X k j = at2 Y k j)) n 0 && samQ X Y n g (k + 1)) from rfl)
  have HL0 := Lib.hid (fun g k => show lsQ X Y n (g + 1) k = match lsI (row X k) (row Y k) n 0 with | some b => b | none => lsQ X Y n g (k + 1) from rfl)
  have HS1 := Lib.hid (fun g k j => show allR (fun j => decide (at2 X k j = at2 Y k j)) (g + 1) j = (decide (at2 X k j = at2 Y k j) && allR (fun j => decide (at2 X k j = at2 Y k j)) g (j + 1)) from rfl)
  have HL1 := Lib.hid (fun g k j => show lsI (row X k) (row Y k) (g + 1) j = if at2 X k j ≠ at2 Y k j then some (decide (at2 X k j < at2 Y k j)) else lsI (row X k) (row Y k) g (j + 1) from rfl)
  go_enter Try.func90, Try.ntmps90
  go_wp2
  go_loopg [5] (n) (fun g s5 wr => ∃ (k m : Nat), k + g = n ∧ s5 = .int .i64 k ∧ wr = w.drewN m ∧ Hid (lsQ X Y n g k = lsQ X Y n n 0))
  case atStart => exact ⟨0, _, by omega, rfl, by first | rfl | exact drewN_0 _ | exact drewN_add _ _ _, Lib.hid (rfl)⟩
  case round =>
    obtain ⟨k, mk, hk, rfl, rfl, Hk⟩ := hrel
    by_cases hink : k < n
    · obtain ⟨gk, rfl⟩ : ∃ g', gk = g' + 1 := ⟨gk - 1, by omega⟩
      have hink' : (k : Int) < (n : Nat) := by omega
      obtain rfl := hA (by omega)
      obtain rfl := hB (by omega)
      go_wp2
      go_loopg [6] (n) (fun g s6 wr => ∃ (j m : Nat), j + g = n ∧ s6 = .int .i64 j ∧ wr = w.drewN m ∧ Hid (lsI (row X k) (row Y k) g j = lsI (row X k) (row Y k) n 0))
      case atStart => exact ⟨0, _, by omega, rfl, by first | rfl | exact drewN_0 _ | exact drewN_add _ _ _, Lib.hid (rfl)⟩
      case round =>
        obtain ⟨j, mj, hj, rfl, rfl, Hj⟩ := hrel
        by_cases hinj : j < n
        · obtain ⟨gj, rfl⟩ : ∃ g', gk = g' + 1 := ⟨gk - 1, by omega⟩
          have hinj' : (j : Int) < (n : Nat) := by omega
          have r1 := HR.out k hink
          have r2 := HR2.out k hink
          have c1 := HC.out k hink j hinj
          have c2 := HC2.out k hink j hinj
          have Hst := Lib.hid (HL1.out gj k j)
          obtain ⟨x, hx⟩ : ∃ x, at2 X k j = x := ⟨_, rfl⟩
          obtain ⟨y, hy⟩ : ∃ x, at2 Y k j = x := ⟨_, rfl⟩
          rw [hx] at c1 Hst
          rw [hy] at c2 Hst
          clear hx hy
          by_cases q : x = y
          · have HN := Lib.hid (show lsI (row X k) (row Y k) (gj + 1) j = lsI (row X k) (row Y k) gj (j + 1) by rw [Hst.out, if_neg (fun h => h q)])
            have q' : (x != y) = false := by simp [q]
            clear q
            go_wp2
            go_quiet (fail)
            go_wp2
            go_roundg gj
            case measure => omega
            case rel => exact ⟨j + 1, _, by omega, by go_num, by first | rfl | exact drewN_0 _ | exact drewN_add _ _ _, Lib.hid (by rw [← HN.out]; exact Hj.out)⟩
          · have q' : (x != y) = true := by simp [q]
            have HN := Lib.hid (show lsQ X Y n n 0 = decide (x < y) by rw [← Hk.out, HL0.out, ← Hj.out, Hst.out, if_pos q])
            clear q
            go_wp2
            go_quiet (fail)
            go_wp2
            go_quiet (fail)
            go_wp2
            go_ret
            exact ⟨ret_bool HN.out.symm, _, by first | rfl | exact drewN_add _ _ _ | rw [drewN_add, drewN_add]⟩
        · have hinj' : ¬ (j : Int) < (n : Nat) := by omega
          obtain rfl : gk = 0 := by omega
          have HT := Lib.hid (show lsI (row X k) (row Y k) n 0 = none by rw [← Hj.out]; rfl)
          go_wp2
          go_roundg gk
          case measure => omega
          case rel => exact ⟨k + 1, _, by omega, by go_num, by first | rfl | exact drewN_0 _ | exact drewN_add _ _ _, Lib.hid (by rw [← Hk.out, HL0.out, HT.out])⟩
    · have hink' : ¬ (k : Int) < (n : Nat) := by omega
      obtain rfl : gk = 0 := by omega
      go_wp2
      go_ret
      exact ⟨ret_bool (by rw [← Hk.out]; rfl), _, rfl⟩
def fir1 (D : List (List Int)) (L : List (List Int)) : Nat → Nat → List (List Int) → List (List Int) := itR (fun i b => if cmpM (ordD D (row L i)) b < 0 then ordD D (row L i) else b)
/-- the first of all orders of a space -/
def firV (D : List (List Int)) : List (List Int) := fir1 D (ordK D.length D.length) (ordK D.length D.length).length 0 D
theorem ordK_head : ∀ n : Nat, 1 ≤ n → n ≤ 5 → row (ordK n n) 0 = (List.range n).map (fun i : Nat => (i : Int)) := by
  have key : ∀ n : Fin 6, 1 ≤ n.val → row (ordK n.val n.val) 0 = (List.range n.val).map (fun i : Nat => (i : Int)) := by decide +kernel
  exact fun n h1 h5 => key ⟨n, by omega⟩ h1
theorem ordD_id {D : List (List Int)} (h : Sq D) : ordD D ((List.range D.length).map fun i : Nat => (i : Int)) = D := by
  have hix : ∀ a, a < D.length → ix ((List.range D.length).map fun a : Nat => (a : Int)) a = (a : Int) := fun a ha => by
    rw [ix_of (by simpa using ha)]; simp
  refine mat_ext (by rw [ordD_len]; simp) (fun i hi => ?_) fun i hi k hk => ?_
  · rw [ordD_len] at hi
    simp at hi
    rw [ordD_row (by simpa using hi), h i hi]
    simp
  · rw [ordD_len] at hi
    rw [ordD_row hi] at hk
    simp at hi hk
    rw [ordD_at (by simpa using hi) (by simpa using hk), hix i hi, hix k hk]
    simp
theorem firV_from {D : List (List Int)} (h : Sq D) (h1 : 1 ≤ D.length) (h5 : D.length ≤ 5) : firV D = fir1 D (ordK D.length D.length) ((ordK D.length D.length).length - 1) 1 D := by
  obtain ⟨-, f2, -⟩ := ordK_facts D.length D.length h5 (Nat.le_refl _)
  obtain ⟨g, hg⟩ : ∃ g, (ordK D.length D.length).length = g + 1 := ⟨(ordK D.length D.length).length - 1, by omega⟩
  unfold firV
  rw [hg]
  show fir1 D _ g 1 (if cmpM (ordD D (row (ordK D.length D.length) 0)) D < 0 then _ else D) = _
  rw [ordK_head _ h1 h5, ordD_id h, if_neg (by rw [cmpM_zero.2 rfl]; decide)]
  rfl
end Go.Proofs.Ytbkefojepelggaa
