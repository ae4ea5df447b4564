/- What is proved: contracts and plain laws for what the later texts lean on (Od, Ord, Cmp, OrdI, OrdD, OrdS, Copy). Conditions: those of each. -/
import Derived.Test.YtnalcgcdohlfiaaGreatDoorPa
import Derived.Test.YtnalcgcdohlfiaaGreatDoorShelf
namespace Go.Proofs.YtnalcgcdohlfiaaGreatDoor
open Go.RowKit
/-- the orders of at most three points -/
def ordN : Nat → List (List Int)
  | 1 => [[0]]
  | 2 => [[0, 1], [1, 0]]
  | 3 => [[0, 1, 2], [0, 2, 1], [1, 0, 2], [1, 2, 0], [2, 0, 1], [2, 1, 0]]
  | _ => []
def ordD (D : List (List Int)) (o : List Int) : List (List Int) := o.map fun i => o.map fun k => at2 D i.toNat k.toNat
theorem ordD_len (D : List (List Int)) (o : List Int) : (ordD D o).length = o.length := by simp [ordD]
theorem ordD_row {D : List (List Int)} {o : List Int} {i : Nat} (hi : i < o.length) : row (ordD D o) i = o.map fun k => at2 D (ix o i).toNat k.toNat := by
  rw [row_of (by rw [ordD_len]; exact hi), ix_of hi]
  simp [ordD]
theorem ordD_at {D : List (List Int)} {o : List Int} {i k : Nat} (hi : i < o.length) (hk : k < o.length) : at2 (ordD D o) i k = at2 D (ix o i).toNat (ix o k).toNat := by
  show ix (row (ordD D o) i) k = _
  rw [ordD_row hi, ix_of (by simpa using hk), ix_of hk]
  simp
theorem mat_ext {A B : List (List Int)} (hl : A.length = B.length) (hr : ∀ i, i < A.length → (row A i).length = (row B i).length) (h : ∀ i, i < A.length → ∀ k, k < (row A i).length → at2 A i k = at2 B i k) : A = B :=
  List.ext_getElem hl fun i h1 h2 => by
    rw [← row_of h1, ← row_of h2]
    refine List.ext_getElem (hr i h1) fun k k1 k2 => ?_
    have := h i h1 k k1
    have e1 : at2 A i k = (row A i)[k] := ix_of k1
    have e2 : at2 B i k = (row B i)[k] := ix_of k2
    rw [← e1, ← e2]; exact this
end Go.Proofs.YtnalcgcdohlfiaaGreatDoor
namespace Go.Proofs.YtnalcgcdohlfiaaGreatDoor
open Go.RowKit
/-- l with each of the numbers below x that are not in it -/
def nxx (l : List Int) (acc : List (List Int)) : Nat → List (List Int)
  | 0 => acc
  | x + 1 => if (x : Int) ∈ l then nxx l acc x else nxx l acc x ++ [l ++ [(x : Int)]]
def nxi (n : Nat) (out : List (List Int)) : Nat → List (List Int)
  | 0 => []
  | i + 1 => nxx (row out i) (nxi n out i) n
/-- the beginnings of orders, k numbers of n -/
def ordK (n : Nat) : Nat → List (List Int)
  | 0 => [[]]
  | k + 1 => nxi n (ordK n k) (ordK n k).length
theorem nxx_len (l : List Int) (acc : List (List Int)) : ∀ x, (nxx l acc x).length ≤ acc.length + x
  | 0 => Nat.le_refl _
  | x + 1 => by
    have := nxx_len l acc x
    unfold nxx
    split
    · omega
    · simp; omega
theorem nxi_len (n : Nat) (out : List (List Int)) (hn : n ≤ 5) : ∀ i, (nxi n out i).length ≤ 5 * i
  | 0 => Nat.le_refl _
  | i + 1 => by
    have h1 := nxi_len n out hn i
    have h2 := nxx_len (row out i) (nxi n out i) n
    show (nxx (row out i) (nxi n out i) n).length ≤ _
    omega
/-- an order: each number from 0 on once -/
def ordOk (o : List Int) : Bool := decide (1 ≤ o.length ∧ o.length ≤ 6) && allR (fun k => decide (0 ≤ ix o k ∧ ix o k < o.length) && allR (fun j => decide (ix o j ≠ ix o k)) k 0) o.length 0
theorem ordK_facts : ∀ n k : Nat, n ≤ 5 → k ≤ n → (ordK n k).length ≤ 120 ∧ 1 ≤ (ordK n k).length ∧ ∀ i, i < (ordK n k).length → (row (ordK n k) i).length = k ∧ ∀ j, j < k → 0 ≤ ix (row (ordK n k) i) j ∧ ix (row (ordK n k) i) j < n := by
  have key : ∀ n k : Fin 6, k.val ≤ n.val → (ordK n.val k.val).length ≤ 120 ∧ 1 ≤ (ordK n.val k.val).length ∧ (ordK n.val k.val).all (fun r => decide (r.length = k.val) && r.all (fun x => decide (0 ≤ x ∧ x < n.val))) = true := by decide +kernel
  intro n k hn hk
  obtain ⟨h1, h2, h3⟩ := key ⟨n, by omega⟩ ⟨k, by omega⟩ hk
  refine ⟨h1, h2, fun i hi => ?_⟩
  have h4 := List.all_eq_true.1 h3 (row (ordK n k) i) (by rw [row_of hi]; exact List.getElem_mem _)
  simp only [Bool.and_eq_true] at h4
  have h5 : (row (ordK n k) i).length = k := of_decide_eq_true h4.1
  refine ⟨h5, fun j hj => ?_⟩
  have h6 := List.all_eq_true.1 h4.2 (ix (row (ordK n k) i) j) (by rw [ix_of (by omega)]; exact List.getElem_mem _)
  exact of_decide_eq_true h6
theorem ordK_ok : ∀ n : Nat, 1 ≤ n → n ≤ 5 → ∀ i, i < (ordK n n).length → ordOk (row (ordK n n) i) = true := by
  have key : ∀ n : Fin 6, 1 ≤ n.val → (ordK n.val n.val).all ordOk = true := by decide +kernel
  intro n h1 h5 i hi
  exact List.all_eq_true.1 (key ⟨n, by omega⟩ h1) (row (ordK n n) i) (by rw [row_of hi]; exact List.getElem_mem _)
theorem ordK_three : ∀ n : Nat, 1 ≤ n → n ≤ 3 → ordK n n = ordN n := by
  have key : ∀ n : Fin 4, 1 ≤ n.val → ordK n.val n.val = ordN n.val := by decide +kernel
  exact fun n h1 h3 => key ⟨n, by omega⟩ h1
theorem ordOk_facts {o : List Int} (h : ordOk o = true) : 1 ≤ o.length ∧ o.length ≤ 6 ∧ (∀ k, k < o.length → 0 ≤ ix o k ∧ ix o k < o.length) ∧ ∀ j k, j < o.length → k < o.length → ix o j = ix o k → j = k := by
  unfold ordOk at h
  simp only [Bool.and_eq_true] at h
  obtain ⟨h0, h1⟩ := h
  have h0 := of_decide_eq_true h0
  have h2 := (allR_all _ _).1 h1
  have h3 : ∀ j k, j < k → k < o.length → ix o j ≠ ix o k := fun j k hj hk => by
    have := h2 k hk
    simp only [Bool.and_eq_true] at this
    exact of_decide_eq_true ((allR_all _ _).1 this.2 j hj)
  refine ⟨h0.1, h0.2, fun k hk => ?_, fun j k hj hk e => ?_⟩
  · have := h2 k hk
    simp only [Bool.and_eq_true] at this
    exact of_decide_eq_true this.1
  · rcases Nat.lt_trichotomy j k with q | q | q
    · exact absurd e (h3 j k q hk)
    · exact q
    · exact absurd e.symm (h3 k j q hj)
/-- comparing numbers, rows of numbers, rows of rows: from place i on -/
def cmpZ (x y : Int) : Int := if x < y then -1 else if y < x then 1 else 0
def cmpR (xs ys : List Int) : Nat → Nat → Int
  | 0, _ => if xs.length < ys.length then -1 else 0
  | g + 1, i => if ys.length ≤ i then 1 else if cmpZ (ix xs i) (ix ys i) ≠ 0 then cmpZ (ix xs i) (ix ys i) else cmpR xs ys g (i + 1)
def cmpI (xs ys : List Int) : Int := cmpR xs ys xs.length 0
def cmpQ (D E : List (List Int)) : Nat → Nat → Int
  | 0, _ => if D.length < E.length then -1 else 0
  | g + 1, i => if E.length ≤ i then 1 else if cmpI (row D i) (row E i) ≠ 0 then cmpI (row D i) (row E i) else cmpQ D E g (i + 1)
def cmpM (D E : List (List Int)) : Int := cmpQ D E D.length 0
theorem cmpZ_zero {x y : Int} : cmpZ x y = 0 ↔ x = y := by
  unfold cmpZ
  split
  · exact ⟨fun h => absurd h (by decide), fun h => by omega⟩
  · split
    · exact ⟨fun h => absurd h (by decide), fun h => by omega⟩
    · exact ⟨fun _ => by omega, fun _ => rfl⟩
theorem cmpZ_bd (x y : Int) : -1 ≤ cmpZ x y ∧ cmpZ x y ≤ 1 := by
  unfold cmpZ
  split
  · decide
  · split <;> decide
theorem cmpR_bd (xs ys : List Int) : ∀ g i, -1 ≤ cmpR xs ys g i ∧ cmpR xs ys g i ≤ 1
  | 0, i => by unfold cmpR; split <;> decide
  | g + 1, i => by
    unfold cmpR
    split
    · decide
    · split
      · exact cmpZ_bd _ _
      · exact cmpR_bd xs ys g (i + 1)
theorem cmpQ_bd (D E : List (List Int)) : ∀ g i, -1 ≤ cmpQ D E g i ∧ cmpQ D E g i ≤ 1
  | 0, i => by unfold cmpQ; split <;> decide
  | g + 1, i => by
    unfold cmpQ
    split
    · decide
    · split
      · exact cmpR_bd _ _ _ _
      · exact cmpQ_bd D E g (i + 1)
theorem cmpR_zero {xs ys : List Int} : ∀ g i, i + g = xs.length → (cmpR xs ys g i = 0 ↔ (i + g ≤ ys.length ∨ g = 0) ∧ ¬ xs.length < ys.length ∧ ∀ j, i ≤ j → j < xs.length → ix xs j = ix ys j)
  | 0, i, hi => by
    unfold cmpR
    split
    · exact ⟨fun h => absurd h (by decide), fun h => absurd ‹_› h.2.1⟩
    · exact ⟨fun _ => ⟨.inr rfl, ‹_›, fun j h1 h2 => by omega⟩, fun _ => rfl⟩
  | g + 1, i, hi => by
    unfold cmpR
    split
    · exact ⟨fun h => absurd h (by decide), fun h => by rcases h.1 with q | q <;> omega⟩
    · split
      · rename_i h1 h2
        exact ⟨fun h => absurd h h2, fun h => absurd (cmpZ_zero.2 (h.2.2 i (Nat.le_refl _) (by omega))) h2⟩
      · rename_i h1 h2
        have e : ix xs i = ix ys i := cmpZ_zero.1 (Decidable.of_not_not h2)
        rw [cmpR_zero g (i + 1) (by omega)]
        constructor
        · rintro ⟨a, b, c⟩
          refine ⟨.inl (by rcases a with a | a <;> omega), b, fun j h3 h4 => ?_⟩
          by_cases q : j = i
          · subst q; exact e
          · exact c j (by omega) h4
        · rintro ⟨a, b, c⟩
          exact ⟨.inl (by rcases a with a | a <;> omega), b, fun j h3 h4 => c j (by omega) h4⟩
theorem cmpI_zero {xs ys : List Int} : cmpI xs ys = 0 ↔ xs = ys := by
  unfold cmpI
  rw [cmpR_zero _ _ (by omega)]
  constructor
  · rintro ⟨a, b, c⟩
    have hl : xs.length = ys.length := by rcases a with a | a <;> omega
    exact ext_ix hl fun i hi => c i (Nat.zero_le _) hi
  · rintro rfl
    exact ⟨.inl (by omega), by omega, fun _ _ _ => rfl⟩
theorem cmpQ_zero {D E : List (List Int)} : ∀ g i, i + g = D.length → (cmpQ D E g i = 0 ↔ (i + g ≤ E.length ∨ g = 0) ∧ ¬ D.length < E.length ∧ ∀ j, i ≤ j → j < D.length → row D j = row E j)
  | 0, i, hi => by
    unfold cmpQ
    split
    · exact ⟨fun h => absurd h (by decide), fun h => absurd ‹_› h.2.1⟩
    · exact ⟨fun _ => ⟨.inr rfl, ‹_›, fun j h1 h2 => by omega⟩, fun _ => rfl⟩
  | g + 1, i, hi => by
    unfold cmpQ
    split
    · exact ⟨fun h => absurd h (by decide), fun h => by rcases h.1 with q | q <;> omega⟩
    · split
      · rename_i h1 h2
        exact ⟨fun h => absurd h h2, fun h => absurd (cmpI_zero.2 (h.2.2 i (Nat.le_refl _) (by omega))) h2⟩
      · rename_i h1 h2
        have e : row D i = row E i := cmpI_zero.1 (Decidable.of_not_not h2)
        rw [cmpQ_zero g (i + 1) (by omega)]
        constructor
        · rintro ⟨a, b, c⟩
          refine ⟨.inl (by rcases a with a | a <;> omega), b, fun j h3 h4 => ?_⟩
          by_cases q : j = i
          · subst q; exact e
          · exact c j (by omega) h4
        · rintro ⟨a, b, c⟩
          exact ⟨.inl (by rcases a with a | a <;> omega), b, fun j h3 h4 => c j (by omega) h4⟩
theorem cmpM_zero {D E : List (List Int)} : cmpM D E = 0 ↔ D = E := by
  unfold cmpM
  rw [cmpQ_zero _ _ (by omega)]
  constructor
  · rintro ⟨a, b, c⟩
    have hl : D.length = E.length := by rcases a with a | a <;> omega
    exact ext_row hl fun i hi => c i (Nat.zero_le _) hi
  · rintro rfl
    exact ⟨.inl (by omega), by omega, fun _ _ _ => rfl⟩
end Go.Proofs.YtnalcgcdohlfiaaGreatDoor
namespace Go.Proofs.YtnalcgcdohlfiaaGreatDoor
open Go.RowKit
theorem isNaN_any (x : Int) (w : World) : Calls Tryz.prog 144 #[.int .i64 x] w fun e w' => e = .returned (.bool false) ∧ w' = w := by
  go_enter Tryz.func144, Tryz.ntmps144
  go_wp2
  go_ret
  exact ⟨ret_bool (by simp), rfl⟩
theorem cmpZ_any (x y : Int) (w : World) : Calls Tryz.prog 124 #[.int .i64 x, .int .i64 y] w fun e w' => e = .returned (.int .i64 (cmpZ x y)) ∧ w' = w := by
  have Hd := Lib.hid (show cmpZ x y = if x < y then -1 else if y < x then 1 else 0 from rfl)
  by_cases h1 : x < y
  · have HF := Lib.hid (show cmpZ x y = -1 by rw [Hd.out, if_pos h1])
    go_enter Tryz.func124, Tryz.ntmps124
    go_wp2_with fail
    refine (isNaN_any _ _).mono ?_
    rintro e w1 ⟨rfl, rfl⟩
    go_wp2_with fail
    refine (isNaN_any _ _).mono ?_
    rintro e w1 ⟨rfl, rfl⟩
    go_wp2
    go_ret
    exact ⟨ret_int HF.out.symm, rfl⟩
  · by_cases h2 : y < x
    · have HF := Lib.hid (show cmpZ x y = 1 by rw [Hd.out, if_neg h1, if_pos h2])
      go_enter Tryz.func124, Tryz.ntmps124
      go_wp2_with fail
      refine (isNaN_any _ _).mono ?_
      rintro e w1 ⟨rfl, rfl⟩
      go_wp2_with fail
      refine (isNaN_any _ _).mono ?_
      rintro e w1 ⟨rfl, rfl⟩
      go_wp2
      go_ret
      exact ⟨ret_int HF.out.symm, rfl⟩
    · have HF := Lib.hid (show cmpZ x y = 0 by rw [Hd.out, if_neg h1, if_neg h2])
      go_enter Tryz.func124, Tryz.ntmps124
      go_wp2_with fail
      refine (isNaN_any _ _).mono ?_
      rintro e w1 ⟨rfl, rfl⟩
      go_wp2_with fail
      refine (isNaN_any _ _).mono ?_
      rintro e w1 ⟨rfl, rfl⟩
      go_wp2
      go_ret
      exact ⟨ret_int HF.out.symm, rfl⟩
set_option maxHeartbeats 2000000 in
theorem cmpI_any (A B : Option Addr) (c d : Nat) (xs ys : List Int) (w : World) (hx : Ints w A c xs) (hy : Ints w B d ys) :
    Calls Tryz.prog 95 #[.slice A xs.length c, .slice B ys.length d] w fun e w' => e = .returned (.int .i64 (cmpI xs ys)) ∧ ∃ m, w' = w.drewN m := by
  obtain ⟨h1, h2, b, o, hA, hc⟩ := hx
  obtain ⟨k1, k2, b', o', hB, hd⟩ := hy
  unfold maxLen at h2 k2
  have HC := Lib.hid hc
  have HD := Lib.hid hd
  have H0 := Lib.hid (show cmpI xs ys = cmpR xs ys xs.length 0 from rfl)
  clear hc hd
  obtain ⟨n, hn⟩ : ∃ n, xs.length = n := ⟨_, rfl⟩
  obtain ⟨p, hp⟩ : ∃ n, ys.length = n := ⟨_, rfl⟩
  have HR0 := Lib.hid (show ∀ i, cmpR xs ys 0 i = if n < p then -1 else 0 from fun i => by rw [← hn, ← hp]; rfl)
  have HR1 := Lib.hid (show ∀ g i, cmpR xs ys (g + 1) i = if p ≤ i then 1 else if cmpZ (ix xs i) (ix ys i) ≠ 0 then cmpZ (ix xs i) (ix ys i) else cmpR xs ys g (i + 1) from fun g i => by rw [← hp]; rfl)
  rw [hn] at hA HC h1 H0
  rw [hp] at hB HD k1
  rw [hn, hp]
  clear hn hp
  go_enter Tryz.func95, Tryz.ntmps95
  go_wp2
  go_loopg [11] (n) (fun g s11 wr => ∃ (i m : Nat), i + g = n ∧ s11 = .int .i64 i ∧ wr = w.drewN m ∧ Hid (cmpR xs ys g i = cmpI xs ys))
  case atStart => exact ⟨0, _, by omega, rfl, by first | rfl | exact drewN_0 _ | exact drewN_add _ _ _, Lib.hid (H0.out.symm)⟩
  case round =>
    obtain ⟨i, mi, hi, rfl, rfl, Hi⟩ := hrel
    by_cases hini : i < n
    · obtain ⟨gi, rfl⟩ : ∃ g', gk = g' + 1 := ⟨gk - 1, by omega⟩
      have hini' : (i : Int) < (n : Nat) := by omega
      obtain rfl := hA (by omega)
      have c1 := HC.out i hini
      by_cases hip : i < p
      · have hip' : ¬ (p : Int) ≤ (i : Nat) := by omega
        obtain rfl := hB (by omega)
        have c2 := HD.out i hip
        have Hst := Lib.hid (show cmpR xs ys (gi + 1) i = if cmpZ (ix xs i) (ix ys i) ≠ 0 then cmpZ (ix xs i) (ix ys i) else cmpR xs ys gi (i + 1) by rw [HR1.out, if_neg (by omega)])
        have HZ := Lib.hid (fun W => cmpZ_any (ix xs i) (ix ys i) W)
        obtain ⟨z0, z1⟩ := cmpZ_bd (ix xs i) (ix ys i)
        obtain ⟨Z, hZ⟩ : ∃ Z, cmpZ (ix xs i) (ix ys i) = Z := ⟨_, rfl⟩
        rw [hZ] at Hst HZ z0 z1
        clear hZ
        obtain ⟨X, hX⟩ : ∃ Z, ix xs i = Z := ⟨_, rfl⟩
        obtain ⟨Y, hY⟩ : ∃ Z, ix ys i = Z := ⟨_, rfl⟩
        rw [hX] at c1 HZ
        rw [hY] at c2 HZ
        clear hX hY
        go_wp2_with fail
        refine (HZ.out _).mono ?_
        rintro e w1 ⟨rfl, rfl⟩
        by_cases hz : Z = 0
        · have HN := Lib.hid (show cmpR xs ys (gi + 1) i = cmpR xs ys gi (i + 1) by rw [Hst.out, if_neg (fun q => q hz)])
          go_wp2
          go_roundg gi
          case measure => omega
          case rel => exact ⟨i + 1, _, by omega, by go_num, by first | rfl | exact drewN_0 _ | exact drewN_add _ _ _, Lib.hid (by rw [← HN.out]; exact Hi.out)⟩
        · have HN := Lib.hid (show cmpR xs ys (gi + 1) i = Z by rw [Hst.out, if_pos hz])
          go_wp2
          go_ret
          exact ⟨ret_int (by rw [← Hi.out, HN.out]), _, rfl⟩
      · have hip' : (p : Int) ≤ (i : Nat) := by omega
        have HN := Lib.hid (show cmpR xs ys (gi + 1) i = 1 by rw [HR1.out, if_pos (by omega)])
        go_wp2
        go_ret
        exact ⟨ret_int (by rw [← Hi.out, HN.out]), _, rfl⟩
    · have hini' : ¬ (i : Int) < (n : Nat) := by omega
      obtain rfl : gk = 0 := by omega
      by_cases q : n < p
      · have q' : (n : Int) < (p : Nat) := by omega
        have HN := Lib.hid (show cmpR xs ys 0 i = -1 by rw [HR0.out, if_pos q])
        go_wp2
        go_ret
        exact ⟨ret_int (by rw [← Hi.out, HN.out]), _, rfl⟩
      · have q' : ¬ (n : Int) < (p : Nat) := by omega
        have HN := Lib.hid (show cmpR xs ys 0 i = 0 by rw [HR0.out, if_neg q])
        go_wp2
        go_ret
        exact ⟨ret_int (by rw [← Hi.out, HN.out]), _, rfl⟩
set_option maxHeartbeats 2000000 in
theorem cmpFn_any (A B : Option Addr) (c d : Nat) (D E : List (List Int)) (w : World) (hD : Mat w A c D) (hE : Mat w B d E) :
    Calls Tryz.prog 94 #[.slice A D.length c, .slice B E.length d, .func (.func 95) #[] #[]] w fun e w' => e = .returned (.int .i64 (cmpM D E)) ∧ ∃ m, w' = w.drewN m := by
  obtain ⟨h1, h2, -⟩ := id hD
  obtain ⟨k1, k2, -⟩ := id hE
  obtain ⟨b, o, R, rc, _, _, hA, hrow, -, -, -, hints⟩ := hD.parts
  obtain ⟨b', o', R', rc', _, _, hB, hrow', -, -, -, hints'⟩ := hE.parts
  unfold maxLen at h2 k2
  have HC := Lib.hid hrow
  have HD := Lib.hid hrow'
  have HK := Lib.hid (fun i j (hi : i < D.length) (hj : j < E.length) W (q : Ext w W) => cmpI_any (R i) (R' j) (rc i) (rc' j) (row D i) (row E j) W ((hints i hi).ext q) ((hints' j hj).ext q))
  have H0 := Lib.hid (show cmpM D E = cmpQ D E D.length 0 from rfl)
  clear hrow hrow' hints hints' hD hE
  obtain ⟨n, hn⟩ : ∃ n, D.length = n := ⟨_, rfl⟩
  obtain ⟨p, hp⟩ : ∃ n, E.length = n := ⟨_, rfl⟩
  have HR0 := Lib.hid (show ∀ i, cmpQ D E 0 i = if n < p then -1 else 0 from fun i => by rw [← hn, ← hp]; rfl)
  have HR1 := Lib.hid (show ∀ g i, cmpQ D E (g + 1) i = if p ≤ i then 1 else if cmpI (row D i) (row E i) ≠ 0 then cmpI (row D i) (row E i) else cmpQ D E g (i + 1) from fun g i => by rw [← hp]; rfl)
  rw [hn] at hA HC h1 H0 HK
  rw [hp] at hB HD k1 HK
  rw [hn, hp]
  clear hn hp
  go_enter Tryz.func94, Tryz.ntmps94
  go_wp2
  go_loopg [13] (n) (fun g s13 wr => ∃ (i m : Nat), i + g = n ∧ s13 = .int .i64 i ∧ wr = w.drewN m ∧ Hid (cmpQ D E g i = cmpM D E))
  case atStart => exact ⟨0, _, by omega, rfl, by first | rfl | exact drewN_0 _ | exact drewN_add _ _ _, Lib.hid (H0.out.symm)⟩
  case round =>
    obtain ⟨i, mi, hi, rfl, rfl, Hi⟩ := hrel
    by_cases hini : i < n
    · obtain ⟨gi, rfl⟩ : ∃ g', gk = g' + 1 := ⟨gk - 1, by omega⟩
      have hini' : (i : Int) < (n : Nat) := by omega
      obtain rfl := hA (by omega)
      have c1 := HC.out i hini
      by_cases hip : i < p
      · have hip' : ¬ (p : Int) ≤ (i : Nat) := by omega
        obtain rfl := hB (by omega)
        have c2 := HD.out i hip
        have Hst := Lib.hid (show cmpQ D E (gi + 1) i = if cmpI (row D i) (row E i) ≠ 0 then cmpI (row D i) (row E i) else cmpQ D E gi (i + 1) by rw [HR1.out, if_neg (by omega)])
        have HZ := Lib.hid (HK.out i i hini hip)
        obtain ⟨z0, z1⟩ := cmpR_bd (row D i) (row E i) (row D i).length 0
        change -1 ≤ cmpI (row D i) (row E i) at z0
        change cmpI (row D i) (row E i) ≤ 1 at z1
        obtain ⟨Z, hZ⟩ : ∃ Z, cmpI (row D i) (row E i) = Z := ⟨_, rfl⟩
        rw [hZ] at Hst HZ z0 z1
        clear hZ
        obtain ⟨X, hX⟩ : ∃ Z, (row D i).length = Z := ⟨_, rfl⟩
        obtain ⟨Y, hY⟩ : ∃ Z, (row E i).length = Z := ⟨_, rfl⟩
        rw [hX] at c1 HZ
        rw [hY] at c2 HZ
        clear hX hY
        by_cases hz : Z = 0
        · have HN := Lib.hid (show cmpQ D E (gi + 1) i = cmpQ D E gi (i + 1) by rw [Hst.out, if_neg (fun q => q hz)])
          go_wp2_with (go_at_call 95; refine (HZ.out _ (Ext.drewN _ _)).mono ?_; rintro e w1 ⟨rfl, m1, rfl⟩)
          go_roundg gi
          case measure => omega
          case rel => exact ⟨i + 1, _, by omega, by go_num, by first | rfl | exact drewN_0 _ | exact drewN_add _ _ _, Lib.hid (by rw [← HN.out]; exact Hi.out)⟩
        · have HN := Lib.hid (show cmpQ D E (gi + 1) i = Z by rw [Hst.out, if_pos hz])
          go_wp2_with (go_at_call 95; refine (HZ.out _ (Ext.drewN _ _)).mono ?_; rintro e w1 ⟨rfl, m1, rfl⟩)
          go_ret
          exact ⟨ret_int (by rw [← Hi.out, HN.out]), _, rfl⟩
      · have hip' : (p : Int) ≤ (i : Nat) := by omega
        have HN := Lib.hid (show cmpQ D E (gi + 1) i = 1 by rw [HR1.out, if_pos (by omega)])
        go_wp2
        go_ret
        exact ⟨ret_int (by rw [← Hi.out, HN.out]), _, rfl⟩
    · have hini' : ¬ (i : Int) < (n : Nat) := by omega
      obtain rfl : gk = 0 := by omega
      by_cases q : n < p
      · have q' : (n : Int) < (p : Nat) := by omega
        have HN := Lib.hid (show cmpQ D E 0 i = -1 by rw [HR0.out, if_pos q])
        go_wp2
        go_ret
        exact ⟨ret_int (by rw [← Hi.out, HN.out]), _, rfl⟩
      · have q' : ¬ (n : Int) < (p : Nat) := by omega
        have HN := Lib.hid (show cmpQ D E 0 i = 0 by rw [HR0.out, if_neg q])
        go_wp2
        go_ret
        exact ⟨ret_int (by rw [← Hi.out, HN.out]), _, rfl⟩
theorem compareRows_any (A B : Option Addr) (c d : Nat) (D E : List (List Int)) (w : World) (hD : Mat w A c D) (hE : Mat w B d E) :
    Calls Tryz.prog 62 #[.slice A D.length c, .slice B E.length d] w fun e w' => e = .returned (.int .i64 (cmpM D E)) ∧ ∃ m, w' = w.drewN m := by
  have HM := Lib.hid hD
  have HN := Lib.hid hE
  have HC := Lib.hid (cmpFn_any A B c d D E w hD hE)
  clear hD hE
  go_enter Tryz.func62, Tryz.ntmps62
  go_wp2_with (go_at_call 94; refine HC.out.mono ?_; rintro e w1 ⟨rfl, m1, rfl⟩)
  go_ret
  exact ⟨rfl, _, rfl⟩
end Go.Proofs.YtnalcgcdohlfiaaGreatDoor
namespace Go.Proofs.YtnalcgcdohlfiaaGreatDoor
open Go.RowKit
theorem Acc.low {w0 w1 W : World} {E : TypeId} {v : Value} {xs : List Value} (h : Acc w1 W E v xs) (k : Ext w0 w1) : Acc w0 W E v xs := ⟨k.trans h.1, h.2.1, h.2.2.imp id fun ⟨g, cap, cur, h1, h2, h3⟩ => ⟨g, cap, cur, h1, Nat.le_trans k.size h2, h3⟩⟩
theorem AccM.low {w0 w1 W : World} {v : Value} {D : List (List Int)} {V : Nat → Value} (h : AccM w1 W v D V) (k : Ext w0 w1) : AccM w0 W v D V :=
  ⟨h.1.low k, h.2.1, h.2.2.1, fun i hi g hg => Nat.le_trans k.size (h.2.2.2 i hi g hg)⟩
/-- rows under way -/
def AccR (w0 W : World) (v : Value) (D : List (List Int)) : Prop := ∃ V, AccM w0 W v D V
theorem AccR.x {w0 W : World} {v : Value} {D : List (List Int)} (h : AccR w0 W v D) : Ext w0 W := by
  obtain ⟨V, h⟩ := h
  exact h.x
theorem AccR.on {w0 W W' : World} {v : Value} {D : List (List Int)} (h : AccR w0 W v D) (k : Ext W W') : AccR w0 W' v D := by
  obtain ⟨V, h⟩ := h
  exact ⟨V, h.on k⟩
theorem AccR.low {w0 w1 W : World} {v : Value} {D : List (List Int)} (h : AccR w1 W v D) (k : Ext w0 w1) : AccR w0 W v D := by
  obtain ⟨V, h⟩ := h
  exact ⟨V, h.low k⟩
theorem AccR.empty {w0 w : World} (h : Ext w0 w) : AccR w0 (w.alloc (.cells #[] 47)) (.slice (some ⟨w.heap.size, 0, none⟩) 0 0) [] := ⟨fun _ => .slice none 0 0, AccM.empty h _⟩
theorem AccR.nil {w0 w : World} (h : Ext w0 w) : AccR w0 w (.slice none 0 0) [] := ⟨fun _ => .slice none 0 0, AccM.nil h _⟩
theorem AccR.fresh {w0 W : World} {v : Value} {D : List (List Int)} (h : AccR w0 W v D) : FreshM w0 D (.returned v) W := by
  obtain ⟨V, h⟩ := h
  exact h.done
theorem AccR.mat {w0 W : World} {v : Value} {D : List (List Int)} (h : AccR w0 W v D) : ∃ A c, v = .slice A D.length c ∧ Mat W A c D := by
  obtain ⟨A, c, V', e, hL, -, -, -⟩ := h.fresh
  exact ⟨A, c, by injection e, hL.mat⟩
/-- rows in new memory -/
def FreshR (w : World) (D : List (List Int)) (e : Ending) (w' : World) : Prop := ∃ v, e = .returned v ∧ AccR w w' v D
theorem FreshR.fresh {w : World} {D : List (List Int)} {e : Ending} {w' : World} (h : FreshR w D e w') : FreshM w D e w' := by
  obtain ⟨v, rfl, h⟩ := h
  exact h.fresh
/-- a row that is empty, in a list of its own -/
theorem AccR.one {w0 w : World} (h : Ext w0 w) : AccR w0 ((w.alloc (.cells #[] 3)).alloc (.cells #[.slice (some ⟨w.heap.size, 0, none⟩) 0 0] 47)) (.slice (some ⟨w.heap.size + 1, 0, none⟩) 1 1) [[]] := by
  have hsz : (w.alloc (.cells #[] 3)).heap.size = w.heap.size + 1 := by simp
  have ho := World.ownsRow_lit (base := w0.heap.size) (e := 47) (size := 1) (w.alloc (.cells #[] 3)) #[.slice (some ⟨w.heap.size, 0, none⟩) 0 0] 1 (by rw [hsz]; have := h.size; omega) (by unfold maxLen; omega) rfl
  rw [hsz] at ho
  refine ⟨fun _ => .slice (some ⟨w.heap.size, 0, none⟩) 0 0, ⟨⟨(h.alloc' _).alloc' _, ho⟩, fun i hi => ?_, fun i j hi hj hij => ?_, fun i hi g hg => ?_⟩⟩
  · have : i = 0 := by simpa using hi
    subst this
    exact Leaf.nil _ _ _ (Nat.zero_le _)
  · simp at hi hj
    omega
  · simp [lb] at hg
/-- 'append(v, xs...)': v of one's own, xs to be read -/
theorem appI_run {P : Program} {w0 W : World} {T E ty : TypeId} (_hE : E = 3)
    (ht : P.underlying T = some (.slice E)) (hinfo : (P.info? E).map (fun i => (i.zero, i.size, i.bytes)) = some (some (.int .i64 0), 1, 8))
    {v : Value} {ys xs : List Int} {A : Option Addr} {c : Nat} (hX : Acc w0 W E v (ys.map (Value.int .i64))) (hI : Ints W A c xs) (hlen : ys.length + xs.length ≤ 10000000) :
    ∃ v' w', (Builtin.append_ #[T, T] ty #[v, .slice A xs.length c]).run P W = .ok v' w' ∧ (Acc w0 w' E v' ((ys ++ xs).map (Value.int .i64)) ∧ Beside v W w' ∧ Stays v v' W.heap.size) := by
  obtain ⟨h1, h2, b, o, hA, hc⟩ := hI
  by_cases h0 : 0 < xs.length
  · obtain rfl := hA h0
    rw [List.map_append]
    exact app_run ht hinfo rfl (by decide) v _ ⟨b, o, none⟩ xs.length c (xs.map (Value.int .i64)) (by simp) (ints_news rfl hc) (map_one xs) hX (by simpa using hlen)
  · have hx : xs = [] := List.eq_nil_of_length_eq_zero (by omega)
    subst hx
    rw [List.append_nil]
    cases A with
    | none =>
      obtain ⟨i0, hi, hz, hsz, hb⟩ := info_parts hinfo
      have hr : (Builtin.append_ #[T, T] ty #[v, .slice none 0 c]).run P W = .ok v W := by
        rcases hX.2.2 with ⟨rfl, _⟩ | ⟨g, cap, cur, rfl, _, _, hnc, _⟩
        · simp [Builtin.append_, run_underlying ht, sizeOf, typeInfo, hi, Builtin.lenOf, Builtin.firstCells]
        · simp only [List.length_map] at hnc
          simp [Builtin.append_, run_underlying ht, sizeOf, typeInfo, hi, Builtin.lenOf, Builtin.firstCells, hnc, storeCells]
      exact ⟨v, W, hr, hX, ⟨Nat.le_refl _, fun _ _ _ => rfl⟩, .inl rfl⟩
    | some ad =>
      have := app_run (ty := ty) ht hinfo rfl (by decide) v _ ad 0 c [] rfl (fun j y hj => by simp at hj) (fun u hu => by cases hu) hX (by simpa using hlen)
      simpa using this
/-- one row more, a slice of numbers of one's own -/
theorem accR_run {P : Program} {w0 wr W W' : World} {T E ty : TypeId} (hE : E = 47)
    (ht : P.underlying T = some (.slice E)) (hinfo : (P.info? E).map (fun i => (i.zero, i.size, i.bytes)) = some (some (.slice none 0 0), 1, 24))
    {v u : Value} {D : List (List Int)} {xs : List Int} (ad : Addr) (c : Nat) (had : ad.spot = none) (h : AccR w0 wr v D) (hr : Acc wr W 3 u (xs.map (Value.int .i64))) (hW : Ext W W') (hc : W'.cell? ad = some u) (hl : D.length ≤ 1000000) :
    ∃ v' w', (Builtin.append_ #[T, T] ty #[v, .slice (some ad) 1 c]).run P W' = .ok v' w' ∧ AccR w0 w' v' (D ++ [xs]) := by
  obtain ⟨V, h1⟩ := h
  have hlt : ∀ i, i < D.length → ∀ g ∈ lb (V i), g < wr.heap.size := fun i hi g hg => (h1.2.1 i hi).lt hg
  have hx0 := h1.x.size
  obtain ⟨hleaf, hge⟩ := Leaf.of_own hr.2
  obtain ⟨v', w', hrun, ha⟩ := appM_run (ty := ty) hE ht hinfo v u D xs V ad c had hc (h1.on (hr.1.trans hW)) (hleaf.ext hW) (fun g hg => ⟨by have := hge g hg; omega, fun i hi hg' => by have := hlt i hi g hg'; have := hge g hg; omega⟩) (by omega)
  exact ⟨v', w', hrun, _, ha⟩
theorem contI_any (A : Option Addr) (c : Nat) (xs : List Int) (x : Int) (w : World) (h : Ints w A c xs) : Calls Tryz.prog 143 #[.slice A xs.length c, .int .i64 x] w fun e w' => e = .returned (.bool (decide (x ∈ xs))) ∧ w' = w := by
  obtain ⟨h1, h2, b, o, hA, hc⟩ := h
  unfold maxLen at h2
  by_cases h0 : 0 < xs.length
  · obtain rfl := hA h0
    refine (slices_Contains_int b o xs.length c xs x w (Nat.le_refl _) (by omega) hc).mono ?_
    rintro e w' ⟨rfl, rfl⟩
    exact ⟨ret_bool (by rw [List.take_of_length_le (Nat.le_refl _)]; by_cases q : x ∈ xs <;> simp [q]), rfl⟩
  · have hx : xs = [] := List.eq_nil_of_length_eq_zero (by omega)
    subst hx
    refine (slices_Contains_int_empty A c x w).mono ?_
    rintro e w' ⟨rfl, rfl⟩
    exact ⟨ret_bool (by simp), rfl⟩
set_option maxRecDepth 100000 in
set_option maxHeartbeats 4000000 in
theorem ordersOf_any (n : Nat) (w : World) (hn : n ≤ 5) : Calls Tryz.prog 120 #[.int .i64 n] w (FreshM w (ordK n n)) := by
  have HF := Lib.hid (fun k (hk : k ≤ n) => ordK_facts n k hn hk)
  have HS := Lib.hid (fun k => (show ordK n (k + 1) = nxi n (ordK n k) (ordK n k).length from rfl))
  have HSi := Lib.hid (fun (L : List (List Int)) i => (show nxi n L (i + 1) = nxx (row L i) (nxi n L i) n from rfl))
  have HSx := Lib.hid (fun (l : List Int) acc x => (show nxx l acc (x + 1) = if (x : Int) ∈ l then nxx l acc x else nxx l acc x ++ [l ++ [(x : Int)]] from rfl))
  have H0 := Lib.hid (show ordK n 0 = [[]] from rfl)
  go_enter Tryz.func120, Tryz.ntmps120
  go_wp2
  go_loopg [11, 3] n (fun g s11 s3 wr => ∃ (k : Nat), k + g = n ∧ s11 = .int .i64 k ∧ Hid (AccR w wr s3 (ordK n k)))
  case atStart => exact ⟨0, by omega, rfl, Lib.hid (by rw [H0.out]; exact AccR.one (Ext.refl _))⟩
  case round =>
    obtain ⟨k, hk, rfl, HR⟩ := hrel
    by_cases hin : k < n
    · obtain ⟨gk1, rfl⟩ : ∃ g', gk = g' + 1 := ⟨gk - 1, by omega⟩
      have hin' : (k : Int) < (n : Nat) := by omega
      obtain ⟨A, c, hv, hM⟩ := HR.out.mat
      subst hv
      obtain ⟨f1, f2, f3⟩ := HF.out k (by omega)
      have HSk := Lib.hid (HS.out k)
      have hxq := HR.out.x
      obtain ⟨L, hL⟩ : ∃ L, ordK n k = L := ⟨_, rfl⟩
      rw [hL] at hM f1 f2 f3 HSk HR
      have HXW := Lib.hid hxq
      obtain ⟨h1, h2, -⟩ := id hM
      obtain ⟨b, o, R, rc, rb, ro, hA, hrow, hlen, hR, hcell, hints⟩ := hM.parts
      obtain rfl := hA (by omega)
      have HROW := Lib.hid hrow
      have HIN := Lib.hid hints
      have HLEN := Lib.hid f3
      unfold maxLen at h2
      obtain ⟨wq, hwq⟩ : ∃ wq : World, wq = wr := ⟨_, rfl⟩
      subst hwq
      rw [hL]
      clear hrow hints f3 hlen hR hcell hA hL hM hxq HR
      obtain ⟨M, hMl⟩ : ∃ M, L.length = M := ⟨_, rfl⟩
      rw [hMl] at f1 f2 h1 HROW HIN HSk HLEN
      rw [hMl]
      go_wp2
      go_loopg [16, 4] M (fun g s16 s4 wi => ∃ (i : Nat), i + g = M ∧ s16 = .int .i64 i ∧ Hid (AccR wq wi s4 (nxi n L i)))
      case atStart => exact ⟨0, by omega, rfl, Lib.hid (AccR.empty (Ext.refl _))⟩
      case round =>
        obtain ⟨i, hi, rfl, HRi⟩ := hrel
        by_cases hini : i < M
        · obtain ⟨gi1, rfl⟩ : ∃ g', gk = g' + 1 := ⟨gk - 1, by omega⟩
          have hini' : (i : Int) < (M : Nat) := by omega
          have hxi := HRi.out.x
          have c1 := hxi.cell (HROW.out i hini)
          have HIi := Lib.hid (HIN.out i hini)
          have hl5 : (row L i).length ≤ 5 := by have := (HLEN.out i hini).1; omega
          have HSi1 := Lib.hid (HSi.out L i)
          have bd := nxi_len n L hn i
          have HSxi := Lib.hid (fun x => HSx.out (row L i) (nxi n L i) x)
          have bx := Lib.hid (nxx_len (row L i) (nxi n L i))
          obtain ⟨r, hr⟩ : ∃ r, row L i = r := ⟨_, rfl⟩
          obtain ⟨acc, hacc⟩ : ∃ r, nxi n L i = r := ⟨_, rfl⟩
          rw [hr] at c1 HIi hl5 HSi1 HSxi bx
          rw [hacc] at HRi HSi1 bd HSxi bx
          clear hr hacc
          go_wp2
          go_loopg [21, 4] n (fun g s21 s4 wx => ∃ (x : Nat), x + g = n ∧ s21 = .int .i64 x ∧ Hid (AccR wq wx s4 (nxx r acc x)))
          case atStart => exact ⟨0, by omega, rfl, HRi⟩
          case round =>
            obtain ⟨x, hx, rfl, HRx⟩ := hrel
            have hxx := HRx.out.x
            by_cases hinx : x < n
            · obtain ⟨gx1, rfl⟩ : ∃ g', gk = g' + 1 := ⟨gk - 1, by omega⟩
              have hinx' : (x : Int) < (n : Nat) := by omega
              have HC := Lib.hid (fun W (q : Ext wq W) => contI_any (R i) (rc i) r x W (HIi.out.ext q))
              by_cases hm : (x : Int) ∈ r
              · rw [decide_eq_true hm] at HC
                have HN := Lib.hid (show nxx r acc (x + 1) = nxx r acc x by rw [HSxi.out, if_pos hm])
                clear hm
                go_wp2_with (go_at_call 143; refine (HC.out _ hxx).mono ?_; rintro e w1 ⟨rfl, hw⟩; rw [hw]; clear hw w1)
                go_roundg gx1
                case measure => omega
                case rel => exact ⟨x + 1, by omega, by go_num, Lib.hid (by rw [HN.out]; exact HRx.out)⟩
              · rw [decide_eq_false hm] at HC
                have HN := Lib.hid (show nxx r acc (x + 1) = nxx r acc x ++ [r ++ [(x : Int)]] by rw [HSxi.out, if_neg hm])
                have bxx := bx.out x
                clear hm
                obtain ⟨acx, hacx⟩ : ∃ q, nxx r acc x = q := ⟨_, rfl⟩
                rw [hacx] at HN bxx HRx
                clear hacx
                go_wp2_with (first
                  | (go_at_call 143; refine (HC.out _ hxx).mono ?_; rintro e w1 ⟨rfl, hw⟩; rw [hw]; clear hw w1)
                  | (at_builtin; (fail_if_success (have hq := hA1)); refine wpList_ex rfl _ _ rfl (.slice (some ⟨_, 0, none⟩) 0 0) _ rfl rfl (appI_run (w0 := wr) (ys := []) rfl Tryz.underlying47 infoI (accNew (Ext.alloc _ _) (heap_alloc_new _ _) (Nat.le_refl _)) (HIi.out.ext (hxx.alloc' _)) (by simp; omega)) ?_; rintro v1 W1 ⟨hA1, hB1, hS1⟩; rw [List.nil_append] at hA1)
                  | (at_builtin; (fail_if_success (have hq := hA2)); refine wpList_ex rfl _ _ rfl v1 (.slice (some ⟨_, 0, none⟩) 1 1) rfl rfl (app_run (w0 := wr) Tryz.underlying47 infoI rfl (by decide) v1 (r.map (Value.int .i64)) ⟨_, 0, none⟩ 1 1 [.int .i64 x] rfl (one_news (cell_new0 _ _ _) rfl) (map_one [(x : Int)]) (hA1.on (Ext.alloc _ _)) (by simp; omega)) ?_; rintro v2 W2 ⟨hA2', hB2, hS2⟩; have hA2 : Acc wr W2 3 v2 ((r ++ [(x : Int)]).map (Value.int .i64)) := (by rw [List.map_append]; exact hA2'); obtain ⟨Ar, cr, hv2, -⟩ := (Leaf.of_own hA2.2).1.ints; obtain ⟨K, hK⟩ : ∃ K, (r ++ [(x : Int)]).length = K := ⟨_, rfl⟩; rw [hK] at hv2; subst hv2; clear hK hA2')
                  | (at_builtin; refine wpList_ex rfl _ _ rfl _ (.slice (some ⟨_, 0, none⟩) 1 1) rfl rfl (accR_run (u := .slice Ar K cr) rfl Tryz.underlying23 infoR ⟨_, 0, none⟩ 1 rfl HRx.out hA2 (Ext.alloc _ _) (cell_new0 _ _ _) (by omega)) ?_; rintro v3 W3 hR3))
                go_roundg gx1
                case measure => omega
                case rel => exact ⟨x + 1, by omega, by go_num, Lib.hid (by rw [HN.out]; exact hR3)⟩
            · have hinx' : ¬ (x : Int) < (n : Nat) := by omega
              obtain rfl : gk = 0 := by omega
              obtain rfl : x = n := by omega
              go_wp2
              go_roundg gi1
              case measure => omega
              case rel => exact ⟨i + 1, by omega, by go_num, Lib.hid (by rw [HSi1.out]; exact HRx.out)⟩
        · have hini' : ¬ (i : Int) < (M : Nat) := by omega
          obtain rfl : gk = 0 := by omega
          obtain rfl : i = M := by omega
          go_wp2
          go_roundg gk1
          case measure => omega
          case rel => exact ⟨k + 1, by omega, by go_num, Lib.hid (by rw [HSk.out]; exact HRi.out.low HXW.out)⟩
    · have hin' : ¬ (k : Int) < (n : Nat) := by omega
      obtain rfl : gk = 0 := by omega
      obtain rfl : k = n := by omega
      have HFR := Lib.hid HR.out.fresh
      clear HR
      go_wp2
      go_ret
      exact HFR.out
end Go.Proofs.YtnalcgcdohlfiaaGreatDoor
namespace Go.Proofs.YtnalcgcdohlfiaaGreatDoor
open Go.RowKit
theorem take_ix {xs : List Int} {j : Nat} (h : j < xs.length) : xs.take (j + 1) = xs.take j ++ [ix xs j] := by
  rw [List.take_succ_eq_append_getElem h, ix_of h]
theorem take_row {D : List (List Int)} {i : Nat} (h : i < D.length) : D.take (i + 1) = D.take i ++ [row D i] := by
  rw [List.take_succ_eq_append_getElem h, row_of h]
theorem ordD_cell {D : List (List Int)} {o : List Int} {i k : Nat} (hi : i < o.length) (hk : k < o.length) : ix (row (ordD D o) i) k = at2 D (ix o i).toNat (ix o k).toNat := ordD_at hi hk
set_option maxRecDepth 100000 in
set_option maxHeartbeats 4000000 in
theorem ordered_own (A : Option Addr) (ca : Nat) (D : List (List Int)) (B : Option Addr) (cb : Nat) (o : List Int) (w : World) (hD : Mat w A ca D) (hO : Ints w B cb o) (hf : farB D = true) (ho6 : o.length ≤ 6) (ho : ∀ j, j < o.length → 0 ≤ ix o j ∧ ix o j < D.length) :
    Calls Tryz.prog 121 #[.slice A D.length ca, .slice B o.length cb] w (FreshR w (ordD D o)) := by
  obtain ⟨⟨hn1, hn6⟩, hsq, hcells⟩ := farB_parts hf
  obtain ⟨bk, off, rc, rb, ro, hA, hrow, hlen, hcell, -⟩ := hD.square hsq
  obtain rfl := hA (by omega)
  have hcm := hD.2.1
  unfold maxLen at hcm
  obtain ⟨k1, k2, b2, o2, hB, hc2⟩ := hO
  unfold maxLen at k2
  have HROW := Lib.hid hrow
  have HCE := Lib.hid hcell
  have HO := Lib.hid hc2
  have HLO := Lib.hid ho
  have HAT := Lib.hid (fun i k hi hk => ordD_cell (D := D) (o := o) (i := i) (k := k) hi hk)
  have HRL := Lib.hid (fun i (hi : i < o.length) => show (row (ordD D o) i).length = o.length by rw [ordD_row hi]; simp)
  have HTR := Lib.hid (fun i (hi : i < o.length) => take_row (D := ordD D o) (i := i) (by rw [ordD_len]; exact hi))
  have HTX := Lib.hid (fun i j (hi : i < o.length) (hj : j < o.length) => take_ix (xs := row (ordD D o) i) (j := j) (by rw [ordD_row hi]; simpa using hj))
  have HTF := Lib.hid (fun i (hi : i < o.length) => show (row (ordD D o) i).take o.length = row (ordD D o) i from List.take_of_length_le (by rw [ordD_row hi]; simp))
  have HTF2 := Lib.hid (show (ordD D o).take o.length = ordD D o from List.take_of_length_le (by rw [ordD_len]; exact Nat.le_refl _))
  have HBD := Lib.hid (fun i (h : i ≤ o.length) => show ((ordD D o).take i).length ≤ 6 by rw [List.length_take]; omega)
  obtain ⟨n, hn⟩ : ∃ n, D.length = n := ⟨_, rfl⟩
  obtain ⟨p, hp⟩ : ∃ n, o.length = n := ⟨_, rfl⟩
  rw [hn] at HROW HCE HLO hn1 hn6
  rw [hp] at HO HLO HAT HRL HTR HTX HTF HTF2 ho6 k1 hB HBD
  rw [hn, hp]
  clear hrow hcell hc2 ho hf hsq hcells hD hA hn hp hlen
  obtain ⟨E, hE⟩ : ∃ E, ordD D o = E := ⟨_, rfl⟩
  rw [hE] at HAT HRL HTR HTX HTF HTF2 HBD
  rw [hE]
  clear hE
  go_enter Tryz.func121, Tryz.ntmps121
  go_wp2
  go_loopg [14, 5] p (fun g s14 s5 wr => ∃ (i : Nat), i + g = p ∧ s14 = .int .i64 i ∧ Hid (AccR w wr s5 (E.take i)))
  case atStart => exact ⟨0, by omega, rfl, Lib.hid (by rw [List.take_zero]; exact AccR.empty (Ext.refl _))⟩
  case round =>
    obtain ⟨i, hi, rfl, HR⟩ := hrel
    by_cases hini : i < p
    · obtain ⟨gi1, rfl⟩ : ∃ g', gk = g' + 1 := ⟨gk - 1, by omega⟩
      have hini' : (i : Int) < (p : Nat) := by omega
      have hxi := HR.out.x
      obtain rfl := hB (by omega)
      have c1 := hxi.cell (HO.out i hini)
      obtain ⟨a0, a1⟩ := HLO.out i hini
      have HATi := Lib.hid (fun k hk => HAT.out i k hini hk)
      have HTXi := Lib.hid (fun k hk => HTX.out i k hini hk)
      have HTFi := Lib.hid (HTF.out i hini)
      have HTRi := Lib.hid (HTR.out i hini)
      have HRLi := Lib.hid (HRL.out i hini)
      have HBDi := Lib.hid (HBD.out i (by omega))
      obtain ⟨a, ha⟩ : ∃ a : Nat, ix o i = (a : Int) := ⟨(ix o i).toNat, by omega⟩
      rw [ha] at c1 a0 a1 HATi
      have ha' : a < n := by omega
      have HTN : ((a : Int)).toNat = a := by omega
      rw [HTN] at HATi
      have HR1 := Lib.hid (HROW.out a ha')
      obtain ⟨RW, hRW⟩ : ∃ r, row E i = r := ⟨_, rfl⟩
      rw [hRW] at HATi HTXi HTFi HTRi HRLi
      obtain ⟨wq, hwq⟩ : ∃ wq : World, wq = wr := ⟨_, rfl⟩
      subst hwq
      have HXI := Lib.hid hxi
      clear ha hRW HTN a0
      go_wp2
      go_loopg [21, 8] p (fun g s21 s8 wx => ∃ (k : Nat), k + g = p ∧ s21 = .int .i64 k ∧ Hid (Acc wq wx 3 s8 ((RW.take k).map (Value.int .i64))))
      case atStart => exact ⟨0, by omega, rfl, Lib.hid (by rw [List.take_zero]; exact Acc.empty _ (Ext.refl _))⟩
      case round =>
        obtain ⟨k, hk, rfl, HK⟩ := hrel
        have hxk := HK.out.x
        by_cases hink : k < p
        · obtain ⟨gk1, rfl⟩ : ∃ g', gk = g' + 1 := ⟨gk - 1, by omega⟩
          have hink' : (k : Int) < (p : Nat) := by omega
          have c2 := (HXI.out.trans hxk).cell (HO.out k hink)
          have c3 := (HXI.out.trans hxk).cell HR1.out
          obtain ⟨a0, a2⟩ := HLO.out k hink
          have HATk := Lib.hid (HATi.out k hink)
          have HTXk := Lib.hid (HTXi.out k hink)
          obtain ⟨d, hd⟩ : ∃ a : Nat, ix o k = (a : Int) := ⟨(ix o k).toNat, by omega⟩
          rw [hd] at c2 a0 a2 HATk
          have hd' : d < n := by omega
          have HTN : ((d : Int)).toNat = d := by omega
          rw [HTN] at HATk
          have c4 := (HXI.out.trans hxk).cell (HCE.out a ha' d hd')
          rw [← HATk.out] at c4
          obtain ⟨X, hX⟩ : ∃ x, ix RW k = x := ⟨_, rfl⟩
          rw [hX] at c4 HTXk
          have hb6 : ((RW.take k).map (Value.int .i64)).length ≤ 6 := by rw [List.length_map, List.length_take]; omega
          obtain ⟨ys, hys⟩ : ∃ ys, RW.take k = ys := ⟨_, rfl⟩
          rw [hys] at HK HTXk hb6
          clear hys hX hd HTN a0 HATk
          go_wp2_with (at_builtin; refine wpList_ex rfl _ _ rfl _ (.slice (some ⟨_, 0, none⟩) 1 1) rfl rfl (app_run (w0 := wq) Tryz.underlying47 infoI rfl (by decide) _ (ys.map (Value.int .i64)) ⟨_, 0, none⟩ 1 1 [.int .i64 X] rfl (one_news (cell_new0 _ _ _) rfl) (map_one [X]) (HK.out.on (Ext.alloc _ _)) (by omega)) ?_; rintro v2 W2 ⟨hA2, hB2, hS2⟩)
          go_roundg gk1
          case measure => omega
          case rel => exact ⟨k + 1, by omega, by go_num, Lib.hid (by rw [HTXk.out, List.map_append]; exact hA2)⟩
        · have hink' : ¬ (k : Int) < (p : Nat) := by omega
          obtain rfl : gk = 0 := by omega
          obtain rfl : k = p := by omega
          rw [HTFi.out] at HK
          obtain ⟨Ar, cr, hv2, -⟩ := (Leaf.of_own HK.out.2).1.ints
          obtain ⟨K, hK⟩ : ∃ K, RW.length = K := ⟨_, rfl⟩
          rw [hK] at hv2
          subst hv2
          clear hK
          go_wp2_with (at_builtin; refine wpList_ex rfl _ _ rfl _ (.slice (some ⟨_, 0, none⟩) 1 1) rfl rfl (accR_run (u := .slice Ar K cr) rfl Tryz.underlying23 infoR ⟨_, 0, none⟩ 1 rfl HR.out HK.out (Ext.alloc _ _) (cell_new0 _ _ _) (by have := HBDi.out; omega)) ?_; rintro v3 W3 hR3)
          go_roundg gi1
          case measure => omega
          case rel => exact ⟨i + 1, by omega, by go_num, Lib.hid (by rw [HTRi.out]; exact hR3)⟩
    · have hini' : ¬ (i : Int) < (p : Nat) := by omega
      obtain rfl : gk = 0 := by omega
      obtain rfl : i = p := by omega
      rw [HTF2.out] at HR
      have HFR := Lib.hid HR.out
      clear HR
      go_wp2
      go_ret
      exact ⟨_, rfl, HFR.out⟩
theorem ordered_any (A : Option Addr) (ca : Nat) (D : List (List Int)) (B : Option Addr) (cb : Nat) (o : List Int) (w : World) (hD : Mat w A ca D) (hO : Ints w B cb o) (hf : farB D = true) (ho6 : o.length ≤ 6) (ho : ∀ j, j < o.length → 0 ≤ ix o j ∧ ix o j < D.length) :
    Calls Tryz.prog 121 #[.slice A D.length ca, .slice B o.length cb] w (FreshM w (ordD D o)) := (ordered_own A ca D B cb o w hD hO hf ho6 ho).mono fun _ _ h => h.fresh
end Go.Proofs.YtnalcgcdohlfiaaGreatDoor
namespace Go.Proofs.YtnalcgcdohlfiaaGreatDoor
open Go.RowKit
def ordC (o : List Int) (k : Nat) : Bool := decide (0 ≤ ix o k ∧ ix o k < o.length) && allR (fun j => decide (ix o j ≠ ix o k)) k 0
theorem ordOk_eq (o : List Int) : ordOk o = (allR (ordC o) o.length 0 && inB o.length 1 6) := by
  rw [Bool.and_comm]
  have : inB o.length 1 6 = decide (1 ≤ o.length ∧ o.length ≤ 6) := by
    unfold inB
    exact decide_eq_decide.2 (by omega)
  rw [this]
  rfl
set_option maxHeartbeats 2000000 in
theorem OrderOk_any (B : Option Addr) (cb : Nat) (o : List Int) (w : World) (hO : Ints w B cb o) :
    Calls Tryz.prog 131 #[.slice B o.length cb] w fun e w' => e = .returned (.bool (ordOk o)) ∧ ∃ m, w' = w.drewN m := by
  obtain ⟨k1, k2, b, off, hB, hc⟩ := hO
  unfold maxLen at k2
  have HC := Lib.hid hc
  have HD := Lib.hid (ordOk_eq o)
  have HDc := Lib.hid (fun k => show ordC o k = (decide (0 ≤ ix o k ∧ ix o k < o.length) && allR (fun j => decide (ix o j ≠ ix o k)) k 0) from rfl)
  clear hc
  go_enter Tryz.func131, Tryz.ntmps131
  go_wp2
  go_loopg [3] (o.length) (fun g s3 wr => ∃ (k m : Nat), k + g = o.length ∧ s3 = .int .i64 k ∧ wr = w.drewN m ∧ Hid (allR (ordC o) g k = allR (ordC o) o.length 0))
  case atStart => exact ⟨0, _, by omega, rfl, by first | rfl | exact drewN_0 _ | exact drewN_add _ _ _, Lib.hid (rfl)⟩
  case round =>
    obtain ⟨k, mk, hk, rfl, rfl, Hk⟩ := hrel
    by_cases hink : k < o.length
    · obtain ⟨gk, rfl⟩ : ∃ g', gk = g' + 1 := ⟨gk - 1, by omega⟩
      have hink' : (k : Int) < (o.length : Nat) := by omega
      obtain rfl := hB (by omega)
      have c1 := HC.out k hink
      have Hst := Lib.hid (show allR (ordC o) (gk + 1) k = (ordC o k && allR (ordC o) gk (k + 1)) from rfl)
      have Hck := Lib.hid (HDc.out k)
      obtain ⟨X, hX⟩ : ∃ X, ix o k = X := ⟨_, rfl⟩
      rw [hX] at c1 Hck
      clear hX
      have HIN := Lib.hid (show inB X 0 (o.length - 1) = decide (0 ≤ X ∧ X < o.length) from decide_eq_decide.2 (by omega))
      cases hz : inB X 0 (o.length - 1) with
      | false =>
        have HF := Lib.hid (show ordC o k = false by rw [Hck.out, ← HIN.out, hz]; rfl)
        go_wp2_with fail
        refine (l1In_any _ _ _ _).mono ?_
        rintro e w' ⟨rfl, hw⟩
        rw [hw, hz]
        clear hw hz HIN
        go_wp2
        go_ret
        exact ⟨ret_bool (by rw [HD.out, ← Hk.out, Hst.out, HF.out]; rfl), _, rfl⟩
      | true =>
        have HF := Lib.hid (show ordC o k = allR (fun j => decide (ix o j ≠ X)) k 0 by rw [Hck.out, ← HIN.out, hz, Bool.true_and])
        go_wp2_with fail
        refine (l1In_any _ _ _ _).mono ?_
        rintro e w' ⟨rfl, hw⟩
        rw [hw, hz]
        clear hw hz HIN
        go_wp2
        go_loopg [4] (k) (fun g s4 wr => ∃ (j m : Nat), j + g = k ∧ s4 = .int .i64 j ∧ wr = w.drewN m ∧ Hid (allR (fun j => decide (ix o j ≠ X)) g j = allR (fun j => decide (ix o j ≠ X)) k 0))
        case atStart => exact ⟨0, _, by omega, rfl, by first | rfl | exact drewN_0 _ | exact drewN_add _ _ _, Lib.hid (rfl)⟩
        case round =>
          obtain ⟨j, mj, hj, rfl, rfl, Hj⟩ := hrel
          by_cases hinj : j < k
          · obtain ⟨gj, rfl⟩ : ∃ g', gk = g' + 1 := ⟨gk - 1, by omega⟩
            have hinj' : (j : Int) < (k : Nat) := by omega
            have c2 := HC.out j (by omega)
            have Hst2 := Lib.hid (show allR (fun j => decide (ix o j ≠ X)) (gj + 1) j = (decide (ix o j ≠ X) && allR (fun j => decide (ix o j ≠ X)) gj (j + 1)) from rfl)
            obtain ⟨Y, hY⟩ : ∃ Y, ix o j = Y := ⟨_, rfl⟩
            rw [hY] at c2 Hst2
            clear hY
            by_cases q : Y = X
            · have HN := Lib.hid (show allR (fun j => decide (ix o j ≠ X)) k 0 = false by rw [← Hj.out, Hst2.out, decide_eq_false (fun h => h q)]; rfl)
              have q' : (Y == X) = true := beq_iff_eq.2 q
              have HX := Lib.hid q
              clear q
              go_wp2
              go_quiet (fail)
              go_wp2
              go_ret
              exact ⟨ret_bool (by rw [HD.out, ← Hk.out, Hst.out, HF.out, HN.out]; rfl), _, by first | rfl | exact drewN_add _ _ _⟩
            · have HN := Lib.hid (show allR (fun j => decide (ix o j ≠ X)) (gj + 1) j = allR (fun j => decide (ix o j ≠ X)) gj (j + 1) by rw [Hst2.out, decide_eq_true q, Bool.true_and])
              have q' : (Y == X) = false := beq_eq_false_iff_ne.2 q
              clear q
              go_wp2
              go_quiet (fail)
              go_wp2
              go_roundg gj
              case measure => omega
              case rel => exact ⟨j + 1, _, by omega, by go_num, by first | rfl | exact drewN_0 _ | exact drewN_add _ _ _, Lib.hid (by rw [← HN.out]; exact Hj.out)⟩
          · have hinj' : ¬ (j : Int) < (k : Nat) := by omega
            obtain rfl : gk = 0 := by omega
            have HT := Lib.hid (show allR (fun j => decide (ix o j ≠ X)) k 0 = true by rw [← Hj.out]; rfl)
            go_wp2
            go_roundg gk
            case measure => omega
            case rel => exact ⟨k + 1, _, by omega, by go_num, by first | rfl | exact drewN_0 _ | exact drewN_add _ _ _, Lib.hid (by rw [← Hk.out, Hst.out, HF.out, HT.out, Bool.true_and])⟩
    · have hink' : ¬ (k : Int) < (o.length : Nat) := by omega
      obtain rfl : gk = 0 := by omega
      have HT := Lib.hid (show allR (ordC o) o.length 0 = true by rw [← Hk.out]; rfl)
      have HF := Lib.hid (show ordOk o = inB o.length 1 6 by rw [HD.out, HT.out, Bool.true_and])
      go_wp2_with fail
      refine (l1In_any _ _ _ _).mono ?_
      rintro e w' ⟨rfl, hw⟩
      rw [hw]
      clear hw
      go_wp2
      go_ret
      exact ⟨ret_bool HF.out.symm, _, rfl⟩
def ordV (D : List (List Int)) (o : List Int) : List (List Int) := if spB D = true ∧ ordOk o = true ∧ o.length = D.length then ordD D o else []
theorem one_run {P : Program} {w0 W : World} {T E ty : TypeId} (_hE : E = 3)
    (ht : P.underlying T = some (.slice E)) (hinfo : (P.info? E).map (fun i => (i.zero, i.size, i.bytes)) = some (some (.int .i64 0), 1, 8)) {v : Value} {ys : List Int} (X : Int) (h : Acc w0 W E v (ys.map (Value.int .i64))) (hl : ys.length ≤ 1000000) :
    ∃ v' w', (Builtin.append_ #[T, T] ty #[v, .slice (some ⟨W.heap.size, 0, none⟩) 1 1]).run P (W.alloc (.cells #[.int .i64 X] E)).drew = .ok v' w' ∧ Acc w0 w' E v' ((ys ++ [X]).map (Value.int .i64)) := by
  obtain ⟨v', w', h1, h2, -, -⟩ := app_run (W := (W.alloc (.cells #[.int .i64 X] E)).drew) (ty := ty) ht hinfo rfl (by decide) v (ys.map (Value.int .i64)) ⟨W.heap.size, 0, none⟩ 1 1 [.int .i64 X] rfl (one_news (cell_new0 W _ E) rfl) (map_one [X]) (h.on ((Ext.alloc W _).drewN' 1)) (by simp; omega)
  exact ⟨v', w', h1, by rw [List.map_append]; exact h2⟩
set_option maxRecDepth 100000 in
set_option maxHeartbeats 4000000 in
theorem sOrdered_own (A : Option Addr) (ca : Nat) (D : List (List Int)) (B : Option Addr) (cb : Nat) (o : List Int) (w : World) (hD : Mat w A ca D) (hO : Ints w B cb o) :
    Calls Tryz.prog 111 #[.slice A D.length ca, .slice B o.length cb] w (FreshR w (ordV D o)) := by
  have HMD := Lib.hid hD
  have HMO := Lib.hid hO
  have HCD := Lib.hid (fun W (q : Mat W A ca D) => SpaceOk_any A ca D W q)
  have HCO := Lib.hid (fun W (q : Ints W B cb o) => OrderOk_any B cb o W q)
  have hcm := hD.2.1
  have hlc := hD.1
  unfold maxLen at hcm
  have k2 := hO.2.1
  have k1 := hO.1
  unfold maxLen at k2
  have HNIL := Lib.hid (fun W (q : Ext w W) => (AccR.empty q).fresh)
  cases hs : spB D with
  | false =>
    have HF := Lib.hid (show ordV D o = [] from if_neg fun q => absurd (hs.symm.trans q.1) (by decide))
    rw [hs] at HCD
    clear hs hD hO
    go_enter Tryz.func111, Tryz.ntmps111
    go_wp2_with fail
    refine (HCD.out _ (HMD.out.ext (by repeat (first | exact Ext.refl _ | assumption | apply Ext.drewN' | apply Ext.alloc' | refine Ext.trans ?_ (by assumption))))).mono ?_
    rintro e w1 ⟨rfl, m1, rfl⟩
    go_wp2
    go_ret
    rw [HF.out]
    exact ⟨_, rfl, (AccR.empty (Ext.refl _)).on (by repeat (first | exact Ext.refl _ | assumption | apply Ext.drewN' | apply Ext.alloc' | refine Ext.trans ?_ (by assumption)))⟩
  | true =>
  cases ht : ordOk o with
  | false =>
    have HF := Lib.hid (show ordV D o = [] from if_neg fun q => absurd (ht.symm.trans q.2.1) (by decide))
    rw [hs] at HCD
    rw [ht] at HCO
    clear hs ht hD hO
    go_enter Tryz.func111, Tryz.ntmps111
    go_wp2_with fail
    refine (HCD.out _ (HMD.out.ext (by repeat (first | exact Ext.refl _ | assumption | apply Ext.drewN' | apply Ext.alloc' | refine Ext.trans ?_ (by assumption))))).mono ?_
    rintro e w1 ⟨rfl, m1, rfl⟩
    go_wp2_with fail
    refine (HCO.out _ (HMO.out.ext (by repeat (first | exact Ext.refl _ | assumption | apply Ext.drewN' | apply Ext.alloc' | refine Ext.trans ?_ (by assumption))))).mono ?_
    rintro e w2 ⟨rfl, m2, rfl⟩
    go_wp2
    go_ret
    rw [HF.out]
    exact ⟨_, rfl, (AccR.empty (Ext.refl _)).on (by repeat (first | exact Ext.refl _ | assumption | apply Ext.drewN' | apply Ext.alloc' | refine Ext.trans ?_ (by assumption)))⟩
  | true =>
  by_cases hn : o.length = D.length
  rotate_left
  · have HF := Lib.hid (show ordV D o = [] from if_neg fun q => hn q.2.2)
    have hn' : ((o.length : Int) != (D.length : Nat)) = true := bne_iff_ne.2 (by omega)
    rw [hs] at HCD
    rw [ht] at HCO
    clear hs ht hD hO
    go_enter Tryz.func111, Tryz.ntmps111
    go_wp2_with fail
    refine (HCD.out _ (HMD.out.ext (by repeat (first | exact Ext.refl _ | assumption | apply Ext.drewN' | apply Ext.alloc' | refine Ext.trans ?_ (by assumption))))).mono ?_
    rintro e w1 ⟨rfl, m1, rfl⟩
    go_wp2_with fail
    refine (HCO.out _ (HMO.out.ext (by repeat (first | exact Ext.refl _ | assumption | apply Ext.drewN' | apply Ext.alloc' | refine Ext.trans ?_ (by assumption))))).mono ?_
    rintro e w2 ⟨rfl, m2, rfl⟩
    go_wp2
    go_ret
    rw [HF.out]
    exact ⟨_, rfl, (AccR.empty (Ext.refl _)).on (by repeat (first | exact Ext.refl _ | assumption | apply Ext.drewN' | apply Ext.alloc' | refine Ext.trans ?_ (by assumption)))⟩
  · have HF := Lib.hid (show ordV D o = ordD D o from if_pos ⟨hs, ht, hn⟩)
    obtain ⟨⟨hn1, hn6⟩, hsq, -⟩ := farB_parts (spB_far hs)
    obtain ⟨bk, off, rc, rb, ro, hA, hrow, -, hcell, -⟩ := hD.square hsq
    obtain rfl := hA (by omega)
    obtain ⟨-, -, b2, o2, hB, hc2⟩ := hO
    obtain rfl := hB (by omega)
    obtain ⟨-, -, ho, -⟩ := ordOk_facts ht
    have HROW := Lib.hid hrow
    have HCE := Lib.hid hcell
    have HO := Lib.hid hc2
    have HLO := Lib.hid ho
    have HAT := Lib.hid (fun i k hi hk => ordD_cell (D := D) (o := o) (i := i) (k := k) hi hk)
    have HTR := Lib.hid (fun i (hi : i < o.length) => take_row (D := ordD D o) (i := i) (by rw [ordD_len]; exact hi))
    have HTX := Lib.hid (fun i j (hi : i < o.length) (hj : j < o.length) => take_ix (xs := row (ordD D o) i) (j := j) (by rw [ordD_row hi]; simpa using hj))
    have HTF := Lib.hid (fun i (hi : i < o.length) => show (row (ordD D o) i).take o.length = row (ordD D o) i from List.take_of_length_le (by rw [ordD_row hi]; simp))
    have HTF2 := Lib.hid (show (ordD D o).take o.length = ordD D o from List.take_of_length_le (by rw [ordD_len]; exact Nat.le_refl _))
    have HBD := Lib.hid (fun i (h : i ≤ o.length) => show ((ordD D o).take i).length ≤ 6 by rw [List.length_take]; omega)
    rw [hs] at HCD
    rw [ht] at HCO
    obtain ⟨n, hnn⟩ : ∃ n, D.length = n := ⟨_, rfl⟩
    have hnn2 : o.length = n := by omega
    rw [hnn] at HROW HCE hn1 hn6 HCD hlc
    rw [hnn2] at HO HLO HAT HTR HTX HTF HTF2 HBD HCO k1
    rw [hnn, hnn2]
    clear hrow hcell hc2 ho hsq hA hB hs ht hn hD hnn hnn2
    obtain ⟨E, hE⟩ : ∃ E, ordD D o = E := ⟨_, rfl⟩
    rw [hE] at HAT HTR HTX HTF HTF2 HF HBD
    clear hE
    go_enter Tryz.func111, Tryz.ntmps111
    go_wp2_with fail
    refine (HCD.out _ (HMD.out.ext (by repeat (first | exact Ext.refl _ | assumption | apply Ext.drewN' | apply Ext.alloc' | refine Ext.trans ?_ (by assumption))))).mono ?_
    rintro e w1 ⟨rfl, m1, rfl⟩
    go_wp2_with fail
    refine (HCO.out _ (HMO.out.ext (by repeat (first | exact Ext.refl _ | assumption | apply Ext.drewN' | apply Ext.alloc' | refine Ext.trans ?_ (by assumption))))).mono ?_
    rintro e w2 ⟨rfl, m2, rfl⟩
    go_wp2
    go_loopg [6, 5] n (fun g s6 s5 wr => ∃ (i : Nat), i + g = n ∧ s6 = .int .i64 i ∧ Hid (AccR w wr s5 (E.take i)))
    case atStart => exact ⟨0, by omega, rfl, Lib.hid (by rw [List.take_zero]; exact (AccR.empty (Ext.refl _)).on (by first | exact Ext.refl _ | exact Ext.drewN _ _))⟩
    case round =>
      obtain ⟨i, hi, rfl, HR⟩ := hrel
      by_cases hini : i < n
      · obtain ⟨gi1, rfl⟩ : ∃ g', gk = g' + 1 := ⟨gk - 1, by omega⟩
        have hini' : (i : Int) < (n : Nat) := by omega
        have hxi := HR.out.x
        obtain ⟨a0, a1⟩ := HLO.out i hini
        have HATi := Lib.hid (fun k hk => HAT.out i k hini hk)
        have HTXi := Lib.hid (fun k hk => HTX.out i k hini hk)
        have HTFi := Lib.hid (HTF.out i hini)
        have HTRi := Lib.hid (HTR.out i hini)
        have HBDi := Lib.hid (HBD.out i (by omega))
        have HO1 := Lib.hid (HO.out i hini)
        obtain ⟨a, ha⟩ : ∃ a : Nat, ix o i = (a : Int) := ⟨(ix o i).toNat, by omega⟩
        rw [ha] at HO1 a0 a1 HATi
        have ha' : a < n := by omega
        have HTN : ((a : Int)).toNat = a := by omega
        rw [HTN] at HATi
        have HR1 := Lib.hid (HROW.out a ha')
        obtain ⟨RW, hRW⟩ : ∃ r, row E i = r := ⟨_, rfl⟩
        rw [hRW] at HATi HTXi HTFi HTRi
        obtain ⟨wq, hwq⟩ : ∃ wq : World, wq = wr := ⟨_, rfl⟩
        subst hwq
        have HXI := Lib.hid hxi
        clear ha hRW HTN a0
        go_wp2
        go_loopg [8, 7] n (fun g s8 s7 wx => ∃ (k : Nat), k + g = n ∧ s8 = .int .i64 k ∧ Hid (Acc wq wx 3 s7 ((RW.take k).map (Value.int .i64))))
        case atStart => exact ⟨0, by omega, rfl, Lib.hid (by rw [List.take_zero]; exact Acc.empty _ (Ext.refl _))⟩
        case round =>
          obtain ⟨k, hk, rfl, HK⟩ := hrel
          have hxk := HK.out.x
          by_cases hink : k < n
          · obtain ⟨gk1, rfl⟩ : ∃ g', gk = g' + 1 := ⟨gk - 1, by omega⟩
            have hink' : (k : Int) < (n : Nat) := by omega
            obtain ⟨a0, a2⟩ := HLO.out k hink
            have HATk := Lib.hid (HATi.out k hink)
            have HTXk := Lib.hid (HTXi.out k hink)
            have HO2 := Lib.hid (HO.out k hink)
            obtain ⟨d, hd⟩ : ∃ a : Nat, ix o k = (a : Int) := ⟨(ix o k).toNat, by omega⟩
            rw [hd] at a0 a2 HATk HO2
            have hd' : d < n := by omega
            have HTN : ((d : Int)).toNat = d := by omega
            rw [HTN] at HATk
            have HC4 := Lib.hid (HCE.out a ha' d hd')
            rw [← HATk.out] at HC4
            obtain ⟨X, hX⟩ : ∃ x, ix RW k = x := ⟨_, rfl⟩
            rw [hX] at HC4 HTXk
            have hb6 : (RW.take k).length ≤ 6 := by rw [List.length_take]; omega
            obtain ⟨ys, hys⟩ : ∃ ys, RW.take k = ys := ⟨_, rfl⟩
            rw [hys] at HK HTXk hb6
            have HK2 := Lib.hid (fun W (q : Ext wq W) => (show W.cell? ⟨b2, o2 + i, none⟩ = some (.int .i64 a) ∧ W.cell? ⟨bk, off + a, none⟩ = some (.slice (some ⟨rb a, ro a, none⟩) n (rc a)) ∧ W.cell? ⟨b2, o2 + k, none⟩ = some (.int .i64 d) ∧ W.cell? ⟨rb a, ro a + d, none⟩ = some (.int .i64 X) from
              ⟨(HXI.out.trans q).cell HO1.out, (HXI.out.trans q).cell HR1.out, (HXI.out.trans q).cell HO2.out, (HXI.out.trans q).cell HC4.out⟩))
            have HRUN := Lib.hid (fun ty (Q : Program) (q1 : Q.underlying 47 = _) q2 => one_run (P := Q) (ty := ty) (E := 3) rfl q1 q2 X HK.out (by omega))
            have HB6 := Lib.hid hb6
            clear hys hX hd HTN a0 HATk HC4 hb6
            go_wp2_with fail
            go_region_held3 (fun W => W.cell? ⟨b2, o2 + i, none⟩ = some (.int .i64 a) ∧ W.cell? ⟨bk, off + a, none⟩ = some (.slice (some ⟨rb a, ro a, none⟩) n (rc a)) ∧ W.cell? ⟨b2, o2 + k, none⟩ = some (.int .i64 d) ∧ W.cell? ⟨rb a, ro a + d, none⟩ = some (.int .i64 X))
              (exact HK2.out _ (by repeat (first | assumption | with_reducible exact Ext.refl _ | with_reducible apply Ext.drewN' | with_reducible apply Ext.drew' | with_reducible apply Ext.drew2' | with_reducible apply Ext.alloc')))
              ((refine step_ex rfl _ _ rfl _ (.slice (some ⟨_, 0, none⟩) 1 1) rfl rfl (HRUN.out _ _ Tryz.underlying47 infoI) ?_; rintro v6 w6 hP6; have hx6 := hP6.1))
            all_goals
              go_wp2
              go_roundg gk1
              case measure => omega
              case rel => exact ⟨k + 1, by omega, by go_num, Lib.hid (by rw [HTXk.out]; exact hP6)⟩
          · have hink' : ¬ (k : Int) < (n : Nat) := by omega
            obtain rfl : gk = 0 := by omega
            obtain rfl : k = n := by omega
            rw [HTFi.out] at HK
            obtain ⟨Ar, cr, hv2, -⟩ := (Leaf.of_own HK.out.2).1.ints
            obtain ⟨K, hK⟩ : ∃ K, RW.length = K := ⟨_, rfl⟩
            rw [hK] at hv2
            subst hv2
            clear hK
            go_wp2_with (at_builtin; refine wpList_ex rfl _ _ rfl _ (.slice (some ⟨_, 0, none⟩) 1 1) rfl rfl (accR_run (u := .slice Ar K cr) rfl Tryz.underlying23 infoR ⟨_, 0, none⟩ 1 rfl HR.out HK.out (Ext.alloc _ _) (cell_new0 _ _ _) (by have := HBDi.out; omega)) ?_; rintro v3 W3 hR3)
            go_roundg gi1
            case measure => omega
            case rel => exact ⟨i + 1, by omega, by go_num, Lib.hid (by rw [HTRi.out]; exact hR3)⟩
      · have hini' : ¬ (i : Int) < (n : Nat) := by omega
        obtain rfl : gk = 0 := by omega
        obtain rfl : i = n := by omega
        rw [HTF2.out] at HR
        have HFR := Lib.hid HR.out
        clear HR
        go_wp2
        go_ret
        rw [HF.out]
        exact ⟨_, rfl, HFR.out⟩
theorem sOrdered_any (A : Option Addr) (ca : Nat) (D : List (List Int)) (B : Option Addr) (cb : Nat) (o : List Int) (w : World) (hD : Mat w A ca D) (hO : Ints w B cb o) :
    Calls Tryz.prog 111 #[.slice A D.length ca, .slice B o.length cb] w (FreshM w (ordV D o)) := (sOrdered_own A ca D B cb o w hD hO).mono fun _ _ h => h.fresh
end Go.Proofs.YtnalcgcdohlfiaaGreatDoor
namespace Go.Proofs.YtnalcgcdohlfiaaGreatDoor
open Go.RowKit
set_option maxRecDepth 100000 in
set_option maxHeartbeats 4000000 in
theorem copyRows_any (A : Option Addr) (c : Nat) (D : List (List Int)) (w : World) (h : Mat w A c D) (hz : D.length ≤ 1000) (hr : ∀ i, i < D.length → (row D i).length ≤ 1000) :
    Calls Tryz.prog 34 #[.slice A D.length c] w (FreshR w D) := by
  obtain ⟨h1, h2, -⟩ := id h
  obtain ⟨b, o, R, rc, -, -, hA, hrow, -, -, -, hints⟩ := h.parts
  unfold maxLen at h2
  have HROW := Lib.hid hrow
  have HIN := Lib.hid hints
  have HRL := Lib.hid hr
  have HTR := Lib.hid (fun i (hi : i < D.length) => take_row hi)
  have HTF := Lib.hid (show D.take D.length = D from List.take_of_length_le (Nat.le_refl _))
  have HBD := Lib.hid (fun i => show (D.take i).length ≤ 1000 by rw [List.length_take]; omega)
  clear h hrow hints hr
  obtain ⟨M, hM⟩ : ∃ M, D.length = M := ⟨_, rfl⟩
  rw [hM] at h1 hA HROW HIN HRL HTR HTF hz
  rw [hM]
  clear hM
  go_enter Tryz.func34, Tryz.ntmps34
  go_wp2
  go_loopg [9, 3] M (fun g s9 s3 wr => ∃ (i : Nat), i + g = M ∧ s9 = .int .i64 i ∧ Hid (AccR w wr s3 (D.take i)))
  case atStart => exact ⟨0, by omega, rfl, Lib.hid (by rw [List.take_zero]; exact AccR.empty (Ext.refl _))⟩
  case round =>
    obtain ⟨i, hi, rfl, HR⟩ := hrel
    by_cases hini : i < M
    · obtain ⟨gi1, rfl⟩ : ∃ g', gk = g' + 1 := ⟨gk - 1, by omega⟩
      have hini' : (i : Int) < (M : Nat) := by omega
      have hxi := HR.out.x
      obtain rfl := hA (by omega)
      have c1 := hxi.cell (HROW.out i hini)
      have HIi := Lib.hid (HIN.out i hini)
      have hrl := HRL.out i hini
      have HTRi := Lib.hid (HTR.out i hini)
      have hbd := HBD.out i
      obtain ⟨r, hr⟩ : ∃ r, row D i = r := ⟨_, rfl⟩
      obtain ⟨acc, hacc⟩ : ∃ r, D.take i = r := ⟨_, rfl⟩
      rw [hr] at c1 HIi hrl HTRi
      rw [hacc] at HTRi hbd HR
      clear hr hacc
      go_wp2_with (first
        | (at_builtin; (fail_if_success (have hq := hA1)); refine wpList_ex rfl _ _ rfl (.slice (some ⟨_, 0, none⟩) 0 0) _ rfl rfl (appI_run (w0 := wr) (ys := []) rfl Tryz.underlying47 infoI (accNew (Ext.alloc _ _) (heap_alloc_new _ _) (Nat.le_refl _)) (HIi.out.ext (hxi.alloc' _)) (by simp; omega)) ?_; rintro v1 W1 ⟨hA1, hB1, hS1⟩; rw [List.nil_append] at hA1; obtain ⟨Ar, cr, hv1, -⟩ := (Leaf.of_own hA1.2).1.ints; obtain ⟨K, hK⟩ : ∃ K, r.length = K := ⟨_, rfl⟩; rw [hK] at hv1; subst hv1; clear hK)
        | (at_builtin; refine wpList_ex rfl _ _ rfl _ (.slice (some ⟨_, 0, none⟩) 1 1) rfl rfl (accR_run (u := .slice Ar K cr) rfl Tryz.underlying23 infoR ⟨_, 0, none⟩ 1 rfl HR.out hA1 (Ext.alloc _ _) (cell_new0 _ _ _) (by omega)) ?_; rintro v3 W3 hR3))
      go_roundg gi1
      case measure => omega
      case rel => exact ⟨i + 1, by omega, by go_num, Lib.hid (by rw [HTRi.out]; exact hR3)⟩
    · have hini' : ¬ (i : Int) < (M : Nat) := by omega
      obtain rfl : gk = 0 := by omega
      obtain rfl : i = M := by omega
      rw [HTF.out] at HR
      have HFR := Lib.hid HR.out
      clear HR
      go_wp2
      go_ret
      exact ⟨_, rfl, HFR.out⟩
set_option maxRecDepth 100000 in
set_option maxHeartbeats 4000000 in
theorem l2Copy_any (A : Option Addr) (c : Nat) (D : List (List Int)) (w : World) (h : Mat w A c D) (hz : D.length ≤ 1000) (hr : ∀ i, i < D.length → (row D i).length ≤ 1000) :
    Calls Tryz.prog 38 #[.slice A D.length c] w (FreshR w D) := by
  obtain ⟨h1, h2, -⟩ := id h
  obtain ⟨b, o, R, rc, -, -, hA, hrow, -, -, -, hints⟩ := h.parts
  unfold maxLen at h2
  have HROW := Lib.hid hrow
  have HIN := Lib.hid hints
  have HRL := Lib.hid hr
  have HTR := Lib.hid (fun i (hi : i < D.length) => take_row hi)
  have HTF := Lib.hid (show D.take D.length = D from List.take_of_length_le (Nat.le_refl _))
  have HBD := Lib.hid (fun i => show (D.take i).length ≤ 1000 by rw [List.length_take]; omega)
  clear h hrow hints hr
  obtain ⟨M, hM⟩ : ∃ M, D.length = M := ⟨_, rfl⟩
  rw [hM] at h1 hA HROW HIN HRL HTR HTF hz
  rw [hM]
  clear hM
  go_enter Tryz.func38, Tryz.ntmps38
  go_wp2
  go_loopg [4, 3] M (fun g s4 s3 wr => ∃ (i : Nat), i + g = M ∧ s4 = .int .i64 i ∧ Hid (AccR w wr s3 (D.take i)))
  case atStart => exact ⟨0, by omega, rfl, Lib.hid (by rw [List.take_zero]; exact AccR.empty (Ext.refl _))⟩
  case round =>
    obtain ⟨i, hi, rfl, HR⟩ := hrel
    by_cases hini : i < M
    · obtain ⟨gi1, rfl⟩ : ∃ g', gk = g' + 1 := ⟨gk - 1, by omega⟩
      have hini' : (i : Int) < (M : Nat) := by omega
      have hxi := HR.out.x
      obtain rfl := hA (by omega)
      have c1 := hxi.cell (HROW.out i hini)
      have c2 := (hxi.alloc' (.cells #[] 3)).cell (HROW.out i hini)
      have HIi := Lib.hid (HIN.out i hini)
      have hrl := HRL.out i hini
      have HTRi := Lib.hid (HTR.out i hini)
      have hbd := HBD.out i
      obtain ⟨r, hr⟩ : ∃ r, row D i = r := ⟨_, rfl⟩
      obtain ⟨acc, hacc⟩ : ∃ r, D.take i = r := ⟨_, rfl⟩
      rw [hr] at c1 c2 HIi hrl HTRi
      rw [hacc] at HTRi hbd HR
      clear hr hacc
      go_wp2_with (first
        | (at_builtin; (fail_if_success (have hq := hA1)); refine wpList_ex rfl _ _ rfl (.slice (some ⟨_, 0, none⟩) 0 0) _ rfl rfl (appI_run (w0 := wr) (ys := []) rfl Tryz.underlying47 infoI (accNew (Ext.alloc _ _) (heap_alloc_new _ _) (Nat.le_refl _)) (HIi.out.ext (hxi.alloc' _)) (by simp; omega)) ?_; rintro v1 W1 ⟨hA1, hB1, hS1⟩; rw [List.nil_append] at hA1; obtain ⟨Ar, cr, hv1, -⟩ := (Leaf.of_own hA1.2).1.ints; obtain ⟨K, hK⟩ : ∃ K, r.length = K := ⟨_, rfl⟩; rw [hK] at hv1; subst hv1; clear hK)
        | (at_builtin; refine wpList_ex rfl _ _ rfl _ (.slice (some ⟨_, 0, none⟩) 1 1) rfl rfl (accR_run (u := .slice Ar K cr) rfl Tryz.underlying23 infoR ⟨_, 0, none⟩ 1 rfl HR.out hA1 (Ext.alloc _ _) (cell_new0 _ _ _) (by omega)) ?_; rintro v3 W3 hR3))
      go_roundg gi1
      case measure => omega
      case rel => exact ⟨i + 1, by omega, by go_num, Lib.hid (by rw [HTRi.out]; exact hR3)⟩
    · have hini' : ¬ (i : Int) < (M : Nat) := by omega
      obtain rfl : gk = 0 := by omega
      obtain rfl : i = M := by omega
      rw [HTF.out] at HR
      have HFR := Lib.hid HR.out
      clear HR
      go_wp2
      go_ret
      exact ⟨_, rfl, HFR.out⟩
end Go.Proofs.YtnalcgcdohlfiaaGreatDoor
