/- What is proved: contracts and plain laws for what the later texts lean on (Nu, Pn, Rad, Ste, Whg, Ask, AskT). Conditions: those of each. -/
import Derived.Test.YtnalcgcdohlfiaaGreatDoorPi
import Derived.Lib.LaidTab
import Derived.Test.YtnalcgcdohlfiaaGreatDoorPl
import Derived.Test.YtnalcgcdohlfiaaGreatDoorRadius
import Derived.Test.YtnalcgcdohlfiaaGreatDoorPe
import Derived.Test.YtnalcgcdohlfiaaGreatDoorPh
import Derived.Lib.OwnBridge
import Derived.Sort.OwnSortedInts
import Derived.Test.YtnalcgcdohlfiaaGreatDoorPk
import Derived.Deep.RegionLaw
namespace Go.Proofs.YtnalcgcdohlfiaaGreatDoor
open Go.RowKit Go.Sort
theorem dig_step {n : Nat} (h : 10 ≤ n) : Lib.decDigits n = Lib.decDigits (n / 10) ++ [UInt8.ofNat (48 + n % 10)] := by
  rw [Lib.decDigits, dif_neg (by omega)]
theorem dig_len3 {n : Nat} (h : n < 1000) : (Lib.decDigits n).length ≤ 3 := by
  by_cases q : n < 100
  · have := dig_len q; omega
  · rw [dig_step (by omega), List.length_append, List.length_singleton]
    have := dig_len (n := n / 10) (by omega)
    omega
set_option maxRecDepth 100000 in
set_option maxHeartbeats 2000000 in
theorem l1Number_step (n : Nat) (h : 10 ≤ n) (h2 : n < 1000) (HC0 : ∀ W, Calls Tryz.prog 29 #[.int .i64 ((n / 10 : Nat) : Int)] W fun e w' => e = .returned (tx (Lib.decDigits (n / 10))) ∧ Ext W w') (w : World) : Calls Tryz.prog 29 #[.int .i64 n] w fun e w' => e = .returned (tx (Lib.decDigits n)) ∧ Ext w w' := by
  have h0 : ¬ (n : Int) < 0 := by omega
  have h10 : ¬ (n : Int) < 10 := by omega
  have hq : (n : Int).tdiv 10 = ((n / 10 : Nat) : Int) := by rw [Int.tdiv_eq_ediv_of_nonneg (by omega)]; omega
  have hr : (n : Int).tmod 10 = ((n % 10 : Nat) : Int) := by rw [Int.tmod_eq_emod_of_nonneg (by omega)]; omega
  rw [dig_step h]
  have hql := dig_len3 (n := n / 10) (by omega)
  obtain ⟨a, ha⟩ : ∃ a, n / 10 = a := ⟨_, rfl⟩
  obtain ⟨b, hb⟩ : ∃ a, n % 10 = a := ⟨_, rfl⟩
  have ha9 : a < 100 := by omega
  have hb9 : b < 10 := by omega
  rw [ha] at hq HC0 hql ⊢
  rw [hb] at hr ⊢
  obtain ⟨Q, hQ⟩ : ∃ Q, Lib.decDigits a = Q := ⟨_, rfl⟩
  rw [hQ] at HC0 hql ⊢
  have HC := Lib.hid HC0
  have HCV := Lib.hid (fun W => conv_one W (48 + b) (by omega) (48 + ((b : Nat) : Int)) (by omega))
  have wa : IntKind.i64.wrap (a : Int) = a := IntWalk.i64_in _ ⟨by omega, by omega⟩
  have wb : IntKind.i64.wrap (b : Int) = b := IntWalk.i64_in _ ⟨by omega, by omega⟩
  have wc : IntKind.i64.wrap (48 + (b : Int)) = 48 + b := IntWalk.i64_in _ ⟨by omega, by omega⟩
  have wd : IntKind.u8.wrap (48 + (b : Int)) = 48 + b := by rw [IntKind.wrap_u8]; omega
  have hcv1 : (convert 22 9 (.slice (some ⟨w.heap.size, 0, none⟩) 1 1)).run Tryz.prog ((w.alloc (.cells #[.int .u8 (48 + ((b : Nat) : Int))] 5)).drew) = .ok (.string ⟨[UInt8.ofNat (48 + b)].toArray⟩) ((w.alloc (.cells #[.int .u8 (48 + ((b : Nat) : Int))] 5)).drew) :=
    conv_at _ _ (48 + b) (by omega) (by show World.cell? (w.alloc _) _ = _; rw [cell_cells (heap_alloc_new w _)]; simp)
  clear ha hb HC0 hQ
  obtain ⟨N, hN⟩ : ∃ N, Q ++ [UInt8.ofNat (48 + b)] = N := ⟨_, rfl⟩
  have hcat : ((⟨Q.toArray⟩ : ByteArray) ++ ⟨#[48 + UInt8.ofNat b]⟩) = ⟨N.toArray⟩ := by
    have e : (48 : UInt8) + UInt8.ofNat b = UInt8.ofNat (48 + b) := by rw [UInt8.ofNat_add]; rfl
    rw [← hN, e]; exact tx_add Q [UInt8.ofNat (48 + b)]
  have nl1 : ¬ 9223372036854775807 < Q.length + 1 := by omega
  rw [hN]
  clear hN
  go_enter Tryz.func29, Tryz.ntmps29
  go_wp2_with fail
  go_region_law (go_simp; go_at_call 29; refine (HC.out _).mono ?_; rintro e w5 ⟨rfl, hx5⟩; unfold tx; have hcv5 := HCV.out w5; (try have hcv6 := conv_at w5 w.heap.size (48 + b) (by omega) (by rw [hx5.cell (show World.cell? _ _ = some _ from (show World.cell? (w.alloc (.cells #[.int .u8 (48 + ((b : Nat) : Int))] 5)) ⟨w.heap.size, 0, none⟩ = _ from by rw [cell_cells (heap_alloc_new w _)]; simp; rfl))]; simp)))
  all_goals
    go_wp2
    go_simp
    go_ret
    refine ⟨?_, by repeat (first | exact Ext.trans (by repeat (first | exact Ext.refl _ | apply Ext.drew' | apply Ext.alloc')) hx5 | apply Ext.alloc' | apply Ext.drew')⟩
    rfl
/-- a number of at most three digits -/
theorem l1Number_k (n : Nat) (h : n < 1000) (w : World) : Calls Tryz.prog 29 #[.int .i64 n] w fun e w' => e = .returned (tx (Lib.decDigits n)) ∧ Ext w w' := by
  by_cases q : n < 100
  · exact l1Number_any n q w
  · exact l1Number_step n (by omega) h (fun W => l1Number_any (n / 10) (by omega) W) w
theorem l1Number_z (x : Int) (h : 0 ≤ x ∧ x < 1000) (w : World) : Calls Tryz.prog 29 #[.int .i64 x] w fun e w' => e = .returned (tx (dg x)) ∧ Ext w w' := by
  obtain ⟨n, rfl⟩ : ∃ n : Nat, x = n := ⟨x.toNat, by omega⟩
  exact l1Number_k n (by omega) w
theorem dg_len {x : Int} (h : 0 ≤ x ∧ x < 1000) : (dg x).length ≤ 3 := dig_len3 (by omega)
/-- the table of the powers of ten holds what the rows list -/
def Tab (w : World) : Prop := Lib.TabIs Tryz.prog w "internal/strconv.uint64pow10" .u64 Lib.pow10Tab
theorem itoa_z (x : Int) (h : 0 ≤ x ∧ x < 1000) (w : World) (ht : Tab w) : Calls Tryz.prog 63 #[.int .i64 x] w fun e w' => e = .returned (tx (dg x)) ∧ Ext w w' := by
  refine (strconv_Itoa x (by omega) (by omega) w ht).mono ?_
  rintro e w' ⟨rfl, k, os, rfl⟩
  refine ⟨?_, ?_⟩
  · obtain ⟨n, rfl⟩ : ∃ n : Nat, x = n := ⟨x.toNat, by omega⟩
    rw [Lib.itoa_nonneg]
    rfl
  · exact (show Ext w (grow (w.drewN k) os) from ⟨rfl, rfl, rfl, by simp, fun i hi => heap_grow_old _ _ (by simpa using hi)⟩)
end Go.Proofs.YtnalcgcdohlfiaaGreatDoor
namespace Go.Proofs.YtnalcgcdohlfiaaGreatDoor
open Go.RowKit
def askWhat : List UInt8 := [119, 104, 97, 116]
def askNone : List UInt8 := [110, 111, 110, 101]
def askFar : List UInt8 := [102, 97, 114]
def askBtw : List UInt8 := [98, 101, 116, 119, 101, 101, 110]
/-- what the first word asks of two points -/
def ansP (D : List (List Int)) (P : List UInt8) : Option (Nat × Nat) → List UInt8
  | none => askNone
  | some q => if P = askFar then dg (at2 D q.1 q.2) else rowT (selN (btwB D q.1 q.2) D.length)
/-- the numbers of a text, if it is theirs -/
def numP (R : List UInt8) : Option (List Int) := match nums (spl R) with
  | some xs => if rowT xs = R then some xs else none
  | none => none
def pairX (D : List (List Int)) : Option (List Int) → Option (Nat × Nat)
  | none => none
  | some xs => if xs.length = 2 ∧ ix xs 0 < D.length ∧ ix xs 1 < D.length then some ((ix xs 0).toNat, (ix xs 1).toNat) else none
def pairI (D : List (List Int)) (R : List UInt8) : Option (Nat × Nat) := pairX D (numP R)
def inP (D : List (List Int)) (a : Int) : Prop := 0 ≤ a ∧ a < D.length
instance (D : List (List Int)) (a : Int) : Decidable (inP D a) := inferInstanceAs (Decidable (0 ≤ a ∧ a < D.length))
def pairY (D : List (List Int)) (ps : List (List UInt8)) : Option (Nat × Nat) :=
  if ps.length = 2 ∧ inP D (dgt (ps.getD 0 [])) ∧ inP D (dgt (ps.getD 1 [])) then some ((dgt (ps.getD 0 [])).toNat, (dgt (ps.getD 1 [])).toNat) else none
def pairS (D : List (List Int)) (R : List UInt8) : Option (Nat × Nat) := pairY D (pieces 44 R)
def twoI (D : List (List Int)) (L : List UInt8) : List UInt8 :=
  if cutH 32 L = true ∧ (cutP 32 L = askFar ∨ cutP 32 L = askBtw) ∧ Lib.contains (cutR 32 L) [32] = false then ansP D (cutP 32 L) (pairI D (cutR 32 L)) else askWhat
def twoS (D : List (List Int)) (L : List UInt8) : List UInt8 :=
  if (pieces 32 L).length = 2 then (if (pieces 32 L).getD 0 [] = askFar ∨ (pieces 32 L).getD 0 [] = askBtw then ansP D ((pieces 32 L).getD 0 []) (pairS D ((pieces 32 L).getD 1 [])) else askWhat) else askWhat
theorem split_at (c : UInt8) : ∀ L : List UInt8, (∀ b ∈ L, b ≠ c) ∨ ∃ p r, L = p ++ c :: r ∧ ∀ b ∈ p, b ≠ c
  | [] => Or.inl fun b hb => by cases hb
  | a :: L => by
    by_cases h : a = c
    · exact Or.inr ⟨[], L, by rw [h]; rfl, fun b hb => by cases hb⟩
    · rcases split_at c L with q | ⟨p, r, rfl, q⟩
      · exact Or.inl fun b hb => by
          rcases List.mem_cons.1 hb with e | e
          · rw [e]; exact h
          · exact q b e
      · exact Or.inr ⟨a :: p, r, rfl, fun b hb => by
          rcases List.mem_cons.1 hb with e | e
          · rw [e]; exact h
          · exact q b e⟩
theorem has_miss {c : UInt8} {p : List UInt8} (h : ∀ b ∈ p, b ≠ c) : Lib.contains p [c] = false := by
  unfold Lib.contains
  rw [index_miss h]; rfl
theorem has_hit {c : UInt8} {p r : List UInt8} (h : ∀ b ∈ p, b ≠ c) : Lib.contains (p ++ c :: r) [c] = true := by
  unfold Lib.contains
  rw [index_hit h]
  exact decide_eq_true (by omega)
theorem pieces_len (sep : UInt8) (L : List UInt8) : 1 ≤ (pieces sep L).length := by
  cases h : pieces sep L with
  | nil => exact absurd h (pieces_ne _ _)
  | cons a l => simp
theorem pieces_two {sep : UInt8} {L : List UInt8} (h : (pieces sep L).length = 2) : ∃ p r, L = p ++ sep :: r ∧ pieces sep L = [p, r] := by
  rcases split_at sep L with q | ⟨p, r, rfl, q⟩
  · rw [pieces_none q] at h; simp at h
  · rw [pieces_app q] at h ⊢
    rcases split_at sep r with q2 | ⟨p2, r2, rfl, q2⟩
    · exact ⟨p, r, rfl, by rw [pieces_none q2]⟩
    · rw [pieces_app q2] at h
      have := pieces_len sep r2
      simp only [List.length_cons] at h
      omega
theorem dgt_dg {p : List UInt8} (h : 0 ≤ dgt p) : p = dg (dgt p) := by
  by_cases hc : (1 ≤ p.length ∧ p.length ≤ 2) ∧ ¬ (1 < p.length ∧ ub p 0 = 48) ∧ (∀ i, i < p.length → 48 ≤ ub p i ∧ ub p i ≤ 57)
  · obtain ⟨⟨h1, h2⟩, h3, h4⟩ := hc
    have byte : ∀ x : UInt8, 48 ≤ x.toNat → x.toNat ≤ 57 → x = UInt8.ofNat (48 + (x.toNat - 48)) := fun x g1 g2 => by
      rw [show 48 + (x.toNat - 48) = x.toNat by omega]
      simp
    match p, h1, h2, h3, h4 with
    | [x], _, _, _, h4 =>
      have g := h4 0 (by simp)
      have gx : ub [x] 0 = x.toNat := rfl
      rw [gx] at g
      obtain ⟨k, hk⟩ : ∃ k, x.toNat - 48 = k := ⟨_, rfl⟩
      have hb := byte x g.1 g.2
      rw [hk] at hb
      have hk9 : k < 10 := by omega
      rw [hb, (dec1 k hk9).2.1]
      unfold dg
      rw [Int.toNat_natCast, dig_small hk9]
    | [x, y], _, _, h3, h4 =>
      have g := h4 0 (by simp)
      have g2 := h4 1 (by simp)
      have gx : ub [x, y] 0 = x.toNat := rfl
      have gy : ub [x, y] 1 = y.toNat := rfl
      rw [gx] at g
      rw [gy] at g2
      have h3' : ¬ x.toNat = 48 := fun e => h3 ⟨by simp, by rw [gx]; exact e⟩
      obtain ⟨k, hk⟩ : ∃ k, x.toNat - 48 = k := ⟨_, rfl⟩
      obtain ⟨j, hj⟩ : ∃ j, y.toNat - 48 = j := ⟨_, rfl⟩
      have hb := byte x g.1 g.2
      have hb2 := byte y g2.1 g2.2
      rw [hk] at hb
      rw [hj] at hb2
      have hk9 : k < 10 := by omega
      have hj9 : j < 10 := by omega
      have hk1 : 1 ≤ k := by omega
      rw [hb, hb2, (dec2 k hk9 hk1 j hj9).2]
      unfold dg
      rw [Int.toNat_natCast, dig_two (by omega) (by omega), show (10 * k + j) / 10 = k by omega, show (10 * k + j) % 10 = j by omega]
  · unfold dgt at h
    rw [if_neg hc] at h
    omega
theorem aN_rng {p : List UInt8} {v : Int} (h : aN p = some v) : 0 ≤ v ∧ v ≤ 99 := by
  unfold aN at h
  split at h
  · split at h
    · rename_i q
      injection h with h
      rw [← h]; exact q
    · cases h
  · cases h
theorem nums_rng : ∀ {ps : List (List UInt8)} {xs : List Int}, nums ps = some xs → ∀ x ∈ xs, 0 ≤ x ∧ x ≤ 99
  | [], xs, h, x, hx => by
    simp only [nums] at h
    injection h with h
    rw [← h] at hx
    cases hx
  | p :: ps, xs, h, x, hx => by
    simp only [nums] at h
    cases ha : aN p with
    | none => rw [ha] at h; cases h
    | some v =>
      cases hn : nums ps with
      | none => rw [ha, hn] at h; cases h
      | some vs =>
        rw [ha, hn] at h
        injection h with h
        rw [← h] at hx
        rcases List.mem_cons.1 hx with e | e
        · rw [e]; exact aN_rng ha
        · exact nums_rng hn x e
theorem numP_some {R : List UInt8} {xs : List Int} (h : numP R = some xs) : rowT xs = R ∧ ∀ x ∈ xs, 0 ≤ x ∧ x ≤ 99 := by
  unfold numP at h
  split at h
  · rename_i ys hn
    split at h
    · rename_i q
      injection h with h
      subst h
      exact ⟨q, nums_rng hn⟩
    · cases h
  · cases h
theorem numP_row {xs : List Int} (h : ∀ x ∈ xs, 0 ≤ x ∧ x ≤ 99) (hne : xs ≠ []) : numP (rowT xs) = some xs := by
  unfold numP
  rw [spl_row h hne, nums_dg h]
  exact if_pos rfl
theorem two_of {xs : List Int} (h : xs.length = 2) : ∃ a b, xs = [a, b] := by
  match xs, h with
  | [a, b], _ => exact ⟨a, b, rfl⟩
theorem pair_same (D : List (List Int)) (R : List UInt8) : pairI D R = pairS D R := by
  by_cases h : ∃ a b : Int, (0 ≤ a ∧ a ≤ 99) ∧ (0 ≤ b ∧ b ≤ 99) ∧ R = rowT [a, b]
  · obtain ⟨a, b, ha, hb, rfl⟩ := h
    have hx : ∀ x ∈ [a, b], 0 ≤ x ∧ x ≤ 99 := fun x hx => by
      rcases List.mem_cons.1 hx with e | e
      · rw [e]; exact ha
      · rw [List.mem_singleton.1 e]; exact hb
    have hp := (row_plain hx (List.cons_ne_nil _ _)).1
    have e1 := (dg_all ha.1 ha.2).2.1
    have e2 := (dg_all hb.1 hb.2).2.1
    unfold pairI pairS
    rw [numP_row hx (List.cons_ne_nil _ _), hp]
    show (if ([a, b] : List Int).length = 2 ∧ a < D.length ∧ b < D.length then some (a.toNat, b.toNat) else none) = (if ([dg a, dg b] : List (List UInt8)).length = 2 ∧ inP D (dgt (dg a)) ∧ inP D (dgt (dg b)) then some ((dgt (dg a)).toNat, (dgt (dg b)).toNat) else none)
    rw [e1, e2]
    by_cases q : a < D.length ∧ b < D.length
    · rw [if_pos ⟨rfl, q⟩, if_pos ⟨rfl, ⟨ha.1, q.1⟩, hb.1, q.2⟩]
    · rw [if_neg (fun z => q z.2), if_neg (fun z => q ⟨z.2.1.2, z.2.2.2⟩)]
  · have h1 : pairI D R = none := by
      unfold pairI
      cases hn : numP R with
      | none => rfl
      | some xs =>
        show (if _ then _ else _) = none
        refine if_neg fun q => h ?_
        obtain ⟨e, hr⟩ := numP_some hn
        obtain ⟨a, b, rfl⟩ := two_of q.1
        exact ⟨a, b, hr a (List.mem_cons_self), hr b (List.mem_cons_of_mem _ List.mem_cons_self), e.symm⟩
    have h2 : pairS D R = none := by
      unfold pairS pairY
      refine if_neg fun q => h ?_
      obtain ⟨p, r, e, hp⟩ := pieces_two q.1
      rw [hp] at q
      obtain ⟨-, ⟨q1, -⟩, q2, -⟩ := q
      change 0 ≤ dgt p at q1
      change 0 ≤ dgt r at q2
      refine ⟨dgt p, dgt r, ⟨q1, (dgt_bd p).2⟩, ⟨q2, (dgt_bd r).2⟩, ?_⟩
      rw [rowT_two, rowT_one, ← dgt_dg q1, ← dgt_dg q2]
      exact e
    rw [h1, h2]
theorem two_same (D : List (List Int)) (L : List UInt8) : twoI D L = twoS D L := by
  unfold twoI twoS
  rcases split_at 32 L with q | ⟨p, r, rfl, q⟩
  · rw [(cut_miss q).2.2, pieces_none q, if_neg (fun z => absurd z.1 (by simp)), if_neg (by simp)]
  · obtain ⟨c1, c2, c3⟩ := cut_hit (r := r) q
    rw [c1, c2, c3, pieces_app q]
    rcases split_at 32 r with q2 | ⟨p2, r2, rfl, q2⟩
    · rw [pieces_none q2, has_miss q2, if_pos (show ([p, r] : List (List UInt8)).length = 2 from rfl)]
      show (if true = true ∧ (p = askFar ∨ p = askBtw) ∧ false = false then ansP D p (pairI D r) else askWhat) = if p = askFar ∨ p = askBtw then ansP D p (pairS D r) else askWhat
      by_cases h : p = askFar ∨ p = askBtw
      · rw [if_pos ⟨rfl, h, rfl⟩, if_pos h, pair_same]
      · rw [if_neg (fun z => h z.2.1), if_neg h]
    · rw [has_hit q2, pieces_app q2, if_neg (fun z => absurd z.2.2 (by simp)), if_neg]
      have := pieces_len 32 r2
      simp only [List.length_cons]
      omega
/-- between two points is always one -/
theorem btw_ne {D : List (List Int)} {a b : Nat} (hs : spB D = true) (ha : a < D.length) : selN (btwB D a b) D.length ≠ [] := by
  intro h
  have hz : at2 D a a = 0 := ((farB_parts (spB_far hs)).2.2 a ha a ha).2.2.2.2 rfl
  rw [selN_eq, List.map_eq_nil_iff] at h
  have hm : a ∈ (List.range D.length).filter (btwB D a b) := List.mem_filter.2 ⟨List.mem_range.2 ha, by unfold btwB; exact decide_eq_true (by rw [hz]; omega)⟩
  rw [h] at hm
  cases hm
theorem rowT_ne : ∀ {xs : List Int}, xs ≠ [] → rowT xs ≠ []
  | [], h => absurd rfl h
  | [x], _ => by
    rw [rowT_one]
    unfold dg
    rw [Lib.decDigits]
    split <;> simp
  | x :: y :: r, _ => by
    rw [rowT_two]
    simp
end Go.Proofs.YtnalcgcdohlfiaaGreatDoor
namespace Go.Proofs.YtnalcgcdohlfiaaGreatDoor
open Go.RowKit
def radG (D : List (List Int)) : Nat → Nat → Nat → Nat := itR (fun i b => if maxI (row D i) < maxI (row D b) then i else b)
/-- the first point of the least farthest distance -/
def radP (D : List (List Int)) : Nat := radG D D.length 0 0
theorem radG_yes {D : List (List Int)} {g i b : Nat} (h : maxI (row D i) < maxI (row D b)) : radG D (g + 1) i b = radG D g (i + 1) i := by unfold radG; rw [itR, if_pos h]
theorem radG_no {D : List (List Int)} {g i b : Nat} (h : ¬ maxI (row D i) < maxI (row D b)) : radG D (g + 1) i b = radG D g (i + 1) b := by unfold radG; rw [itR, if_neg h]
theorem radG_lt {D : List (List Int)} : ∀ g i b, i + g ≤ D.length → b < D.length → radG D g i b < D.length
  | 0, _, _, _, h => h
  | g + 1, i, b, hi, h => by
    by_cases q : maxI (row D i) < maxI (row D b)
    · rw [radG_yes q]; exact radG_lt g (i + 1) i (by omega) (by omega)
    · rw [radG_no q]; exact radG_lt g (i + 1) b (by omega) h
theorem radP_lt {D : List (List Int)} (h : 0 < D.length) : radP D < D.length := radG_lt _ _ _ (by omega) h
theorem itR_maxI {xs : List Int} (h : ∀ j, j < xs.length → 0 ≤ ix xs j) (hn : 0 < xs.length) : itR (fun k s => max s (ix xs k)) xs.length 0 0 = maxI xs := by
  obtain ⟨n, hl⟩ : ∃ n, xs.length = n + 1 := ⟨xs.length - 1, by omega⟩
  have h0 := h 0 hn
  unfold maxI
  rw [hl, itR, show max 0 (ix xs 0) = ix xs 0 by omega]
  rfl
theorem itR_wid {D : List (List Int)} (h : ∀ i, i < D.length → 0 ≤ maxI (row D i)) (hn : 0 < D.length) : itR (fun i s => max s (maxI (row D i))) D.length 0 (-1) = widI D := by
  obtain ⟨n, hl⟩ : ∃ n, D.length = n + 1 := ⟨D.length - 1, by omega⟩
  have h0 := h 0 hn
  unfold widI
  rw [hl, itR, itR, show max (-1) (maxI (row D 0)) = max 0 (maxI (row D 0)) by omega]
theorem row_bd {D : List (List Int)} (hs : spB D = true) {i : Nat} (hi : i < D.length) : 0 ≤ maxI (row D i) ∧ maxI (row D i) ≤ 60 := by
  obtain ⟨⟨n1, n6⟩, hsq, hc⟩ := farB_parts (spB_far hs)
  exact maxI_bd (by rw [hsq i hi]; omega) fun j hj => by
    rw [hsq i hi] at hj
    have := hc i hi j hj
    exact ⟨this.1, this.2.1⟩
theorem widI_bd {D : List (List Int)} (hs : spB D = true) : 0 ≤ widI D ∧ widI D ≤ 60 :=
  itR_inv (f := fun i s => max s (maxI (row D i))) (fun _ (t : Int) => 0 ≤ t ∧ t ≤ 60) D.length 0 0 (by omega) fun j t _ hj h => by
    have := row_bd hs (show j < D.length by omega)
    show 0 ≤ max t _ ∧ max t _ ≤ 60
    omega
set_option maxRecDepth 100000 in
set_option maxHeartbeats 2000000 in
theorem iRadius_x (A : Option Addr) (cp : Nat) (D : List (List Int)) (w : World) (h : Mat w A cp D) (hs : spB D = true) :
    Calls Tryz.prog 65 #[.slice A D.length cp] w fun e w' => e = .returned (.tuple #[.int .i64 (maxI (row D (radP D))), .int .i64 (radP D), .bool true]) ∧ ∃ m, w' = w.drewN m := by
  have HC := Lib.hid (isSpace_any A cp D w h)
  rw [hs] at HC
  obtain ⟨⟨hn1, hn6⟩, hsq, hcells⟩ := farB_parts (spB_far hs)
  obtain ⟨bk, o, rc, rb, ro, hA, hrow, hlen, hcell, hints⟩ := h.square hsq
  obtain rfl := hA (by omega)
  have HR := Lib.hid hrow
  have HMX := Lib.hid (fun (i : Nat) (hi : i < D.length) W (q : Ext w W) => (show Calls Tryz.prog 97 #[.slice (some ⟨rb i, ro i, none⟩) D.length (rc i)] W fun e w' => e = .returned (.int .i64 (maxI (row D i))) ∧ ∃ m, w' = W.drewN m from by
    have := slicesMax_any (some ⟨rb i, ro i, none⟩) (rc i) (row D i) W ((hints i hi).ext q) (by rw [hsq i hi]; omega)
    rw [hsq i hi] at this
    exact this))
  clear hs hsq hcells h hrow hlen hcell hints hA
  go_enter Tryz.func65, Tryz.ntmps65
  go_wp2_with fail
  refine (HC.out).mono ?_
  rintro e w1 ⟨rfl, m1, rfl⟩
  go_wp2
  go_loopg [13, 5] (D.length) (fun g s13 s5 wr => ∃ (i m : Nat) (q : Int), i + g = D.length ∧ s13 = .int .i64 i ∧ s5 = .int .i64 q ∧ wr = w.drewN m ∧ 0 ≤ q ∧ q < D.length ∧ Hid (radG D g i q.toNat = radP D))
  case atStart => exact ⟨0, _, _, by omega, rfl, rfl, by first | rfl | exact drewN_0 _ | exact drewN_add _ _ _, by omega, by omega, Lib.hid (rfl)⟩
  case round =>
    obtain ⟨i, mi, q, hi, rfl, rfl, rfl, hq, hqn, Hi⟩ := hrel
    by_cases hini : i < D.length
    · obtain ⟨gi, rfl⟩ : ∃ g', gk = g' + 1 := ⟨gk - 1, by omega⟩
      have hini' : (i : Int) < (D.length : Nat) := by omega
      obtain ⟨b, rfl⟩ : ∃ b : Nat, q = b := ⟨q.toNat, by omega⟩
      have hb : b < D.length := by omega
      have hb' : (b : Int) < (D.length : Nat) := by omega
      have r1 := HR.out i hini
      have r2 := HR.out b hb
      by_cases hm : maxI (row D i) < maxI (row D b)
      · have HS := Lib.hid (radG_yes (g := gi) hm)
        go_wp2
        go_big_quiet ((go_at_call 97; exact quiet_add (HMX.out _ (by first | exact hini | exact hb) _ (Ext.drewN _ _))))
        go_wp2
        go_roundg gi
        case measure => omega
        case rel => exact ⟨i + 1, _, i, by omega, by go_num, by first | rfl | go_num, by first | rfl | exact drewN_0 _ | exact drewN_add _ _ _, by omega, by omega, Lib.hid (by rw [Int.toNat_natCast, ← HS.out, ← Hi.out, Int.toNat_natCast])⟩
      · have HS := Lib.hid (radG_no (g := gi) hm)
        go_wp2
        go_big_quiet ((go_at_call 97; exact quiet_add (HMX.out _ (by first | exact hini | exact hb) _ (Ext.drewN _ _))))
        go_wp2
        go_roundg gi
        case measure => omega
        case rel => exact ⟨i + 1, _, b, by omega, by go_num, by first | rfl | go_num, by first | rfl | exact drewN_0 _ | exact drewN_add _ _ _, by omega, by omega, Lib.hid (by rw [Int.toNat_natCast, ← HS.out, ← Hi.out, Int.toNat_natCast])⟩
    · have hini' : ¬ (i : Int) < (D.length : Nat) := by omega
      obtain rfl : gk = 0 := by omega
      obtain ⟨b, rfl⟩ : ∃ b : Nat, q = b := ⟨q.toNat, by omega⟩
      have HE := Lib.hid (show b = radP D from Hi.out)
      have hb : b < D.length := by omega
      have hb' : (b : Int) < (D.length : Nat) := by omega
      have r2 := HR.out b hb
      clear HR
      go_wp2_with fail
      refine (HMX.out b hb _ (Ext.drewN _ _)).mono ?_
      rintro e w2 ⟨rfl, m2, rfl⟩
      go_wp2
      (try simp only [Exit.inBlock, Exit.then])
      refine bodyPost_ret (results_tmp3 rfl _ _ _) rfl ?_
      rw [← HE.out]
      exact ⟨rfl, _, by first | rfl | exact drewN_add _ _ _⟩
set_option maxRecDepth 100000 in
set_option maxHeartbeats 2000000 in
theorem sFarthest_any (A : Option Addr) (cp : Nat) (D : List (List Int)) (p : Nat) (w : World) (h : Mat w A cp D) (hs : spB D = true) (hp : p < D.length) :
    Calls Tryz.prog 76 #[.slice A D.length cp, .int .i64 p] w fun e w' => e = .returned (.int .i64 (maxI (row D p))) ∧ ∃ m, w' = w.drewN m := by
  have HC := Lib.hid (SpaceOk_any A cp D w h)
  rw [hs] at HC
  have HI := Lib.hid (fun W => l1In_any (p : Nat) 0 ((D.length : Int) - 1) W)
  obtain ⟨⟨hn1, hn6⟩, hsq, hcells⟩ := farB_parts (spB_far hs)
  rw [show inB (p : Nat) 0 ((D.length : Int) - 1) = true from decide_eq_true (by omega)] at HI
  obtain ⟨bk, o, rc, rb, ro, hA, hrow, hlen, hcell, hints⟩ := h.square hsq
  obtain rfl := hA (by omega)
  have HV := Lib.hid (itR_maxI (xs := row D p) (fun j hj => by rw [hsq p hp] at hj; exact (hcells p hp j hj).1) (by rw [hsq p hp]; omega))
  rw [hsq p hp] at HV
  have r1 := hrow p hp
  have HCL := Lib.hid (fun j (hj : j < D.length) => hcell p hp j hj)
  have HB := Lib.hid (fun j (hj : j < D.length) => And.intro (hcells p hp j hj).1 (hcells p hp j hj).2.1)
  have hp' : (p : Int) < (D.length : Nat) := by omega
  obtain ⟨M, hM⟩ : ∃ M, maxI (row D p) = M := ⟨_, rfl⟩
  rw [hM] at HV ⊢
  clear hs hsq hcells h hrow hlen hcell hints hA hM
  go_enter Tryz.func76, Tryz.ntmps76
  go_wp2_with fail
  refine (HC.out).mono ?_
  rintro e w1 ⟨rfl, m1, rfl⟩
  go_wp2_with fail
  refine (HI.out _).mono ?_
  rintro e w2 ⟨rfl, hw⟩
  rw [hw]
  clear hw w2
  go_wp2_with fail
  go_loopg [6, 5] (D.length) (fun g s6 s5 wr => ∃ (i m : Nat) (t : Int), i + g = D.length ∧ s6 = .int .i64 i ∧ s5 = .int .i64 t ∧ wr = w.drewN m ∧ 0 ≤ t ∧ t ≤ 60 ∧ Hid (itR (fun k s => max s (ix (row D p) k)) g i t = M))
  case atStart => exact ⟨0, _, _, by omega, rfl, rfl, by first | rfl | exact drewN_0 _ | exact drewN_add _ _ _, by omega, by omega, Lib.hid (HV.out)⟩
  case round =>
    obtain ⟨i, mi, t, hi, rfl, rfl, rfl, ht, ht', Hi⟩ := hrel
    by_cases hini : i < D.length
    · obtain ⟨gi, rfl⟩ : ∃ g', gk = g' + 1 := ⟨gk - 1, by omega⟩
      have hini' : (i : Int) < (D.length : Nat) := by omega
      have c1 := HCL.out i hini
      obtain ⟨x0, x60⟩ := HB.out i hini
      have Hst := Lib.hid (show itR (fun k s => max s (ix (row D p) k)) (gi + 1) i t = itR (fun k s => max s (ix (row D p) k)) gi (i + 1) (max t (at2 D p i)) from rfl)
      obtain ⟨X, hX⟩ : ∃ X, at2 D p i = X := ⟨_, rfl⟩
      rw [hX] at c1 x0 x60 Hst
      clear hX
      by_cases hle : t < X
      · have HE := Lib.hid (show max t X = X by omega)
        go_wp2
        go_roundg gi
        case measure => omega
        case rel => exact ⟨i + 1, _, X, by omega, by go_num, by first | rfl | go_num, by first | rfl | exact drewN_0 _ | exact drewN_add _ _ _, by omega, by omega, Lib.hid (by rw [← Hi.out, Hst.out, HE.out])⟩
      · have HE := Lib.hid (show max t X = t by omega)
        go_wp2
        go_roundg gi
        case measure => omega
        case rel => exact ⟨i + 1, _, t, by omega, by go_num, by first | rfl | go_num, by first | rfl | exact drewN_0 _ | exact drewN_add _ _ _, by omega, by omega, Lib.hid (by rw [← Hi.out, Hst.out, HE.out])⟩
    · have hini' : ¬ (i : Int) < (D.length : Nat) := by omega
      obtain rfl : gk = 0 := by omega
      have HE := Lib.hid (show t = M from Hi.out)
      go_wp2
      go_ret
      rw [← HE.out]
      exact ⟨rfl, _, by first | rfl | exact drewN_add _ _ _⟩
set_option maxRecDepth 100000 in
set_option maxHeartbeats 2000000 in
theorem sWidthOf_any (A : Option Addr) (cp : Nat) (D : List (List Int)) (w : World) (h : Mat w A cp D) (hs : spB D = true) :
    Calls Tryz.prog 40 #[.slice A D.length cp] w fun e w' => e = .returned (.int .i64 (widI D)) ∧ ∃ m, w' = w.drewN m := by
  have HC := Lib.hid (fun (p : Nat) (hp : p < D.length) W (q : Ext w W) => sFarthest_any A cp D p W (h.ext q) hs hp)
  obtain ⟨hn1, hn6⟩ := spB_len hs
  have HV := Lib.hid (itR_wid (fun i hi => (row_bd hs hi).1) (by omega))
  have HB := Lib.hid (fun (i : Nat) (hi : i < D.length) => row_bd hs hi)
  obtain ⟨M, hM⟩ : ∃ M, widI D = M := ⟨_, rfl⟩
  rw [hM] at HV ⊢
  have hcm := h.2.1
  have hlc := h.1
  unfold maxLen at hcm
  clear h hs hM
  go_enter Tryz.func40, Tryz.ntmps40
  go_wp2_with fail
  go_loopg [4, 3] (D.length) (fun g s4 s3 wr => ∃ (i m : Nat) (t : Int), i + g = D.length ∧ s4 = .int .i64 i ∧ s3 = .int .i64 t ∧ wr = w.drewN m ∧ -1 ≤ t ∧ t ≤ 60 ∧ Hid (itR (fun i s => max s (maxI (row D i))) g i t = M))
  case atStart => exact ⟨0, _, _, by omega, rfl, rfl, by first | rfl | exact drewN_0 _ | exact drewN_add _ _ _, by omega, by omega, Lib.hid (HV.out)⟩
  case round =>
    obtain ⟨i, mi, t, hi, rfl, rfl, rfl, ht, ht', Hi⟩ := hrel
    by_cases hini : i < D.length
    · obtain ⟨gi, rfl⟩ : ∃ g', gk = g' + 1 := ⟨gk - 1, by omega⟩
      have hini' : (i : Int) < (D.length : Nat) := by omega
      obtain ⟨m0, m60⟩ := HB.out i hini
      have Hst := Lib.hid (show itR (fun i s => max s (maxI (row D i))) (gi + 1) i t = itR (fun i s => max s (maxI (row D i))) gi (i + 1) (max t (maxI (row D i))) from rfl)
      have HMk := Lib.hid (HC.out i hini)
      obtain ⟨X, hX⟩ : ∃ X, maxI (row D i) = X := ⟨_, rfl⟩
      rw [hX] at m0 m60 Hst HMk
      clear hX
      go_wp2_with fail
      refine (HMk.out _ (Ext.drewN _ _)).mono ?_
      rintro e w2 ⟨rfl, m2, rfl⟩
      by_cases hle : t < X
      · have HE := Lib.hid (show max t X = X by omega)
        go_wp2
        go_roundg gi
        case measure => omega
        case rel => exact ⟨i + 1, _, X, by omega, by go_num, by first | rfl | go_num, by first | rfl | exact drewN_0 _ | exact drewN_add _ _ _, by omega, by omega, Lib.hid (by rw [← Hi.out, Hst.out, HE.out])⟩
      · have HE := Lib.hid (show max t X = t by omega)
        go_wp2
        go_roundg gi
        case measure => omega
        case rel => exact ⟨i + 1, _, t, by omega, by go_num, by first | rfl | go_num, by first | rfl | exact drewN_0 _ | exact drewN_add _ _ _, by omega, by omega, Lib.hid (by rw [← Hi.out, Hst.out, HE.out])⟩
    · have hini' : ¬ (i : Int) < (D.length : Nat) := by omega
      obtain rfl : gk = 0 := by omega
      have HE := Lib.hid (show t = M from Hi.out)
      go_wp2
      go_ret
      rw [← HE.out]
      exact ⟨rfl, _, by first | rfl | exact drewN_add _ _ _⟩
set_option maxRecDepth 100000 in
set_option maxHeartbeats 4000000 in
theorem sRadius_x (A : Option Addr) (cp : Nat) (D : List (List Int)) (w : World) (h : Mat w A cp D) (hs : spB D = true) :
    Calls Tryz.prog 41 #[.slice A D.length cp] w fun e w' => e = .returned (.tuple #[.int .i64 (maxI (row D (radP D))), .int .i64 (radP D), .bool true]) ∧ ∃ m, w' = w.drewN m := by
  have HC := Lib.hid (fun (p : Nat) (hp : p < D.length) W (q : Ext w W) => sFarthest_any A cp D p W (h.ext q) hs hp)
  have HSP := Lib.hid (fun W (q : Ext w W) => SpaceOk_any A cp D W (h.ext q))
  rw [hs] at HSP
  obtain ⟨hn1, hn6⟩ := spB_len hs
  have hcm := h.2.1
  have hlc := h.1
  unfold maxLen at hcm
  clear h hs
  go_enter Tryz.func41, Tryz.ntmps41
  go_wp2_with fail
  go_loopg [6, 5] (D.length) (fun g s6 s5 wr => ∃ (i m : Nat) (q : Int), i + g = D.length ∧ s6 = .int .i64 i ∧ s5 = .int .i64 q ∧ wr = w.drewN m ∧ -1 ≤ q ∧ q < D.length ∧ Hid ((q < 0 → i = 0) ∧ radG D g i q.toNat = radP D))
  case atStart => exact ⟨0, _, _, by omega, rfl, rfl, by first | rfl | exact drewN_0 _ | exact drewN_add _ _ _, by omega, by omega, Lib.hid (⟨fun _ => rfl, rfl⟩)⟩
  case round =>
    obtain ⟨i, mi, q, hi, rfl, rfl, rfl, hq, hqn, Hi⟩ := hrel
    by_cases hini : i < D.length
    · obtain ⟨gi, rfl⟩ : ∃ g', gk = g' + 1 := ⟨gk - 1, by omega⟩
      have hini' : (i : Int) < (D.length : Nat) := by omega
      by_cases hq0 : q < 0
      · have hi0 : i = 0 := Hi.out.1 hq0
        have HI0 := Lib.hid hi0
        clear hi0
        have HI2 := Lib.hid (show radG D (gi + 1) i q.toNat = radP D from Hi.out.2)
        obtain rfl : q = -1 := by omega
        go_wp2_with fail
        refine (HSP.out _ (Ext.drewN _ _)).mono ?_
        rintro e w2 ⟨rfl, m2, rfl⟩
        go_wp2_with fail
        go_roundg gi
        case measure => omega
        case rel => exact ⟨i + 1, _, i, by omega, by go_num, by first | rfl | go_num, by first | rfl | exact drewN_0 _ | exact drewN_add _ _ _, by omega, by omega, Lib.hid (by exact ⟨fun q => absurd q (by omega), by have hz := HI0.out; have h2 := HI2.out; subst hz; rw [show ((-1 : Int)).toNat = 0 from rfl, radG_no (by omega)] at h2; exact h2⟩)⟩
      · obtain ⟨b, rfl⟩ : ∃ b : Nat, q = b := ⟨q.toNat, by omega⟩
        have hb : b < D.length := by omega
        have h1 := HC.out i hini
        have h2 := HC.out b hb
        have HI2 := Lib.hid (show radG D (gi + 1) i b = radP D from Hi.out.2)
        by_cases hm : maxI (row D i) < maxI (row D b)
        · have HS := Lib.hid (radG_yes (g := gi) hm)
          have H1 := Lib.hid h1
          have H2 := Lib.hid h2
          clear h1 h2
          go_wp2_with fail
          refine (HSP.out _ (Ext.drewN _ _)).mono ?_
          rintro e w2 ⟨rfl, m2, rfl⟩
          go_wp2_with fail
          refine (H1.out _ (by repeat (first | exact Ext.refl _ | assumption | apply Ext.drewN' | apply Ext.alloc' | refine Ext.trans ?_ (by assumption)))).mono ?_
          rintro e w3 ⟨rfl, m3, rfl⟩
          go_wp2_with fail
          refine (H2.out _ (by repeat (first | exact Ext.refl _ | assumption | apply Ext.drewN' | apply Ext.alloc' | refine Ext.trans ?_ (by assumption)))).mono ?_
          rintro e w4 ⟨rfl, m4, rfl⟩
          go_wp2
          go_roundg gi
          case measure => omega
          case rel => exact ⟨i + 1, _, i, by omega, by go_num, by first | rfl | go_num, by first | rfl | exact drewN_0 _ | exact drewN_add _ _ _, by omega, by omega, Lib.hid (by exact ⟨fun q => absurd q (by omega), by rw [Int.toNat_natCast, ← HS.out]; exact HI2.out⟩)⟩
        · have HS := Lib.hid (radG_no (g := gi) hm)
          have H1 := Lib.hid h1
          have H2 := Lib.hid h2
          clear h1 h2
          go_wp2_with fail
          refine (HSP.out _ (Ext.drewN _ _)).mono ?_
          rintro e w2 ⟨rfl, m2, rfl⟩
          go_wp2_with fail
          refine (H1.out _ (by repeat (first | exact Ext.refl _ | assumption | apply Ext.drewN' | apply Ext.alloc' | refine Ext.trans ?_ (by assumption)))).mono ?_
          rintro e w3 ⟨rfl, m3, rfl⟩
          go_wp2_with fail
          refine (H2.out _ (by repeat (first | exact Ext.refl _ | assumption | apply Ext.drewN' | apply Ext.alloc' | refine Ext.trans ?_ (by assumption)))).mono ?_
          rintro e w4 ⟨rfl, m4, rfl⟩
          go_wp2
          go_roundg gi
          case measure => omega
          case rel => exact ⟨i + 1, _, b, by omega, by go_num, by first | rfl | go_num, by first | rfl | exact drewN_0 _ | exact drewN_add _ _ _, by omega, by omega, Lib.hid (by exact ⟨fun q => absurd q (by omega), by rw [Int.toNat_natCast, ← HS.out]; exact HI2.out⟩)⟩
    · have hini' : ¬ (i : Int) < (D.length : Nat) := by omega
      obtain rfl : gk = 0 := by omega
      have hq0 : ¬ q < 0 := fun h => by have := Hi.out.1 h; omega
      obtain ⟨b, rfl⟩ : ∃ b : Nat, q = b := ⟨q.toNat, by omega⟩
      have HE := Lib.hid (show b = radP D from Hi.out.2)
      have hb : b < D.length := by omega
      have h2 := HC.out b hb
      have H2 := Lib.hid h2
      clear h2
      go_wp2_with fail
      refine (H2.out _ (Ext.drewN _ _)).mono ?_
      rintro e w2 ⟨rfl, m2, rfl⟩
      go_wp2
      (try simp only [Exit.inBlock, Exit.then])
      refine bodyPost_ret (results_tmp3 rfl _ _ _) rfl ?_
      rw [← HE.out]
      exact ⟨rfl, _, by first | rfl | exact drewN_add _ _ _⟩
end Go.Proofs.YtnalcgcdohlfiaaGreatDoor
namespace Go.Proofs.YtnalcgcdohlfiaaGreatDoor
open Go.RowKit Go.Sort
/-- the numbers collected under way, beside the rows that were laid ahead of them -/
def StpS (w w1 : World) (v : Value) (xs : List Int) (W : World) : Prop :=
  Acc w W 3 v (xs.map (Value.int .i64)) ∧ (v.ownBlock = some w.heap.size ∨ ∃ g, v.ownBlock = some g ∧ w1.heap.size ≤ g) ∧ w1.heap.size ≤ W.heap.size ∧ ∀ k, w.heap.size + 1 ≤ k → k < w1.heap.size → W.heap[k]? = w1.heap[k]?
theorem StpS.push {w w1 W W' : World} {v v' : Value} {xs ys : List Int} (h : StpS w w1 v xs W) (k : Acc w W' 3 v' (xs.map (Value.int .i64) ++ ys.map (Value.int .i64)) ∧ Beside v W W' ∧ Stays v v' W.heap.size) : StpS w w1 v' (xs ++ ys) W' := by
  obtain ⟨-, g1, g2, g3⟩ := h
  obtain ⟨k1, ⟨k2, k3⟩, k4⟩ := k
  refine ⟨by rw [List.map_append]; exact k1, ?_, by omega, fun q q1 q2 => (k3 q (by omega) fun e => ?_).trans (g3 q q1 q2)⟩
  · rcases k4 with e | e
    · rw [e]; exact g1
    · exact Or.inr ⟨_, e, g2⟩
  · rcases g1 with r | ⟨g, r, r2⟩
    · rw [r] at e; injection e with e; omega
    · rw [r] at e; injection e with e; omega
theorem StpS.open_ {w w1 W : World} {v : Value} {xs : List Int} (h : StpS w w1 v xs W) : ∃ g cap cur, v = .slice (some ⟨g, 0, none⟩) xs.length cap ∧ w.heap.size ≤ g ∧ W.heap[g]? = some (.cells cur 3 (0, 0)) ∧ xs.length ≤ cap ∧ cap ≤ maxLen ∧ cur.size = cap * 1 ∧ cur.toList.take xs.length = xs.map (Value.int .i64) := by
  obtain ⟨⟨-, h1, h2⟩, h3, -⟩ := h
  rw [List.length_map] at h2
  rcases h2 with ⟨rfl, -⟩ | ⟨g, cap, cur, rfl, hb, hg, hn, hm, hs, ht⟩
  · rcases h3 with e | ⟨g, e, -⟩ <;> simp [Value.ownBlock] at e
  · rw [Nat.mul_one] at ht
    exact ⟨g, cap, cur, rfl, hb, hg, hn, hm, hs, ht⟩
theorem StpS.drewN' {w w1 W : World} {v : Value} {xs : List Int} (h : StpS w w1 v xs W) (k : Nat) : StpS w w1 v xs (W.drewN k) := ⟨h.1.on (Ext.drewN _ _), h.2.1, h.2.2.1, h.2.2.2⟩
theorem StpS.alloc' {w w1 W : World} {v : Value} {xs : List Int} (h : StpS w w1 v xs W) (o : Obj) : StpS w w1 v xs (W.alloc o) := ⟨h.1.on (Ext.alloc _ _), h.2.1, Nat.le_trans h.2.2.1 (Ext.alloc W o).size, fun k k1 k2 => ((Ext.alloc W o).block (by have := h.2.2.1; omega)).trans (h.2.2.2 k k1 k2)⟩
theorem upN_len {E : List (List Int)} {n : Nat} (h : ∀ i, i < n → (row E i).length = n) (hn : n ≤ 6) : ∀ m, m ≤ n → (upN E m).length ≤ 6 * m
  | 0, _ => by simp [upN]
  | m + 1, hm => by
    have h1 := upN_len h hn m (by omega)
    have h2 := h m (by omega)
    show (upN E m ++ _).length ≤ _
    rw [List.length_append, List.length_drop, h2]
    omega
theorem compact_len (zs : List Int) : (Lib.compact zs).length ≤ zs.length := by
  have key : ∀ m, (Lib.compactUpTo zs.toArray m).length ≤ m := by
    intro m
    induction m with
    | zero => simp [Lib.compactUpTo]
    | succ m ih =>
      rw [Lib.compactUpTo_succ, List.length_append]
      split <;> simp <;> omega
  have := key zs.toArray.size
  simpa [Lib.compact] using this
set_option maxRecDepth 100000 in
set_option maxHeartbeats 4000000 in
theorem stepsOf_any (A : Option Addr) (cp : Nat) (D : List (List Int)) (w : World) (h : Mat w A cp D) (hs : spB D = true) :
    Calls Tryz.prog 70 #[.slice A D.length cp] w (FreshI w (Lib.compact (srt (upN (blwV D) D.length)))) := by
  have HC := Lib.hid (fun W (q : Ext w W) => iBelowOf_any A cp D W (h.ext q) (spB_far hs))
  have hse := blwV_sp (spB_far hs)
  have n6 := (spB_len hs).2
  clear h hs
  obtain ⟨E, hE⟩ : ∃ E, blwV D = E := ⟨_, rfl⟩
  rw [hE] at HC hse ⊢
  clear hE
  go_enter Tryz.func70, Tryz.ntmps70
  go_wp2_with fail
  refine (HC.out _ (Ext.alloc _ _)).mono ?_
  intro e w1 hB
  obtain ⟨A1, c1, rfl, hF1, hx1, hl1⟩ := hB.from_
  rw [← hl1] at n6
  have HL1 := Lib.hid hl1
  clear hl1 hB
  have hsz1 : w.heap.size < w1.heap.size := by have := hx1.size; simp at this; omega
  have HF1 := Lib.hid hF1
  have HE1 := Lib.hid hse
  have HS0 := Lib.hid (show StpS w w1 (.slice (some ⟨w.heap.size, 0, none⟩) 0 0) [] w1 from ⟨(Acc.empty (w0 := w) (w := w) 3 (Ext.refl _)).on hx1, Or.inl rfl, Nat.le_refl _, fun _ _ _ => rfl⟩)
  have HUL := Lib.hid (fun m (hm : m ≤ E.length) => upN_len (farB_parts (spB_far hse)).2.1 n6 m hm)
  have HMT := Lib.hid (fun W (q : ∀ k, w.heap.size + 1 ≤ k → k < w1.heap.size → W.heap[k]? = w1.heap[k]?) => hF1 W (fun k k1 k2 => q k (by simpa using k1) k2))
  have hlm := hF1.now.1
  have hmm := hF1.now.2.1
  unfold maxLen at hmm
  clear hF1 hx1 hse
  go_wp2
  go_loopg [3, 10] E.length (fun g s3 s10 wr => ∃ (i : Nat) (v : Value), i + g = E.length ∧ s10 = .int .i64 i ∧ v = s3 ∧ Hid (StpS w w1 v (upN E i) wr))
  case atStart => exact ⟨0, _, by omega, rfl, rfl, HS0⟩
  case round =>
    clear HS0
    obtain ⟨i, v, hi, rfl, rfl, HW⟩ := hrel
    by_cases hin : i < E.length
    · obtain ⟨g1, rfl⟩ : ∃ g', gk = g' + 1 := ⟨gk - 1, by omega⟩
      have hin' : (i : Int) < (E.length : Nat) := by omega
      have hM := HMT.out wr HW.out.2.2.2
      obtain ⟨hq1, hsq, hq3⟩ := farB_parts (spB_far HE1.out)
      obtain ⟨bk, o, rc, rb, ro, hA, hrow, hlen, hcell, hints⟩ := hM.square hsq
      obtain rfl := hA (by omega)
      have r1 := hrow i hin
      have hri := hsq i hin
      have hcl := fun j (hj : j < E.length) => hcell i hin j hj
      obtain ⟨hl2, hm2⟩ : E.length ≤ rc i ∧ rc i ≤ maxLen := by
        have := hints i hin
        have q1 := this.1
        have q2 := this.2.1
        rw [hri] at q1
        exact ⟨q1, q2⟩
      unfold maxLen at hm2
      have k1 : (0 : Int) ≤ (i : Int) + 1 := by omega
      have k2 : (i : Int) + 1 ≤ (E.length : Nat) := by omega
      have k3 : (i : Int) + 1 ≤ (rc i : Nat) := by omega
      have k4 : (E.length : Int) ≤ (rc i : Nat) := by omega
      have wk : IntKind.i64.wrap ((i : Int) + 1) = (i : Int) + 1 := IntWalk.i64_in _ ⟨by omega, by omega⟩
      obtain ⟨rci, hrci⟩ : ∃ r, rc i = r := ⟨_, rfl⟩
      obtain ⟨rbi, hrbi⟩ : ∃ r, rb i = r := ⟨_, rfl⟩
      obtain ⟨roi, hroi⟩ : ∃ r, ro i = r := ⟨_, rfl⟩
      rw [hrci, hrbi, hroi] at r1
      rw [hrci] at hl2 hm2 k3 k4
      obtain ⟨ad, had, hnews⟩ : ∃ ad : Addr, (if rci = i + 1 then (some ⟨rbi, roi, none⟩ : Option Addr) else some ⟨rbi, roi + (i + 1), none⟩) = some ad ∧ ∀ j y, (((row E i).drop (i + 1)).map (Value.int .i64))[j]? = some y → wr.cell? (ad.add j) = some y := by
        by_cases q : rci = i + 1
        · refine ⟨_, if_pos q, fun j y hj => ?_⟩
          have := (List.getElem?_eq_some_iff.1 hj).1
          rw [List.length_map, List.length_drop, hri] at this
          omega
        · refine ⟨_, if_neg q, fun j y hj => ?_⟩
          have hjl : j < E.length - (i + 1) := by
            have := (List.getElem?_eq_some_iff.1 hj).1
            rw [List.length_map, List.length_drop, hri] at this
            exact this
          have e := hcl (i + 1 + j) (by omega)
          rw [hrbi, hroi] at e
          rw [Addr.add_lit, show roi + (i + 1) + j = roi + (i + 1 + j) by omega, e, ← hj, List.getElem?_map, List.getElem?_drop, List.getElem?_eq_getElem (by rw [hri]; omega)]
          show some (Value.int .i64 (ix (row E i) (i + 1 + j))) = _
          rw [ix_of (by rw [hri]; omega)]
          rfl
      have hnl : (((row E i).drop (i + 1)).map (Value.int .i64)).length = E.length - (i + 1) := by rw [List.length_map, List.length_drop, hri]
      have hLU := HUL.out i (by omega)
      have hpu := (app_run (P := Tryz.prog) (w0 := w) (T := 47) (E := 3) (ty := 47) Tryz.underlying47 infoI rfl (by decide) v ((upN E i).map (Value.int .i64)) ad (E.length - (i + 1)) (rci - (i + 1)) (((row E i).drop (i + 1)).map (Value.int .i64)) hnl hnews (map_one _) HW.out.1 (by rw [List.length_map]; omega))
      rw [← had] at hpu
      have HPU := Lib.hid hpu
      clear hA hrow hlen hcell hints hsq hq3 hq1 hri hM hcl hnews hnl hLU hrci hrbi hroi hpu had
      go_wp2_with (at_builtin; go_loud (refine wpList_ex rfl _ _ rfl v (.slice (if rci = i + 1 then some ⟨rbi, roi, none⟩ else some ⟨rbi, roi + (i + 1), none⟩) (E.length - (i + 1)) (rci - (i + 1))) rfl rfl HPU.out ?_; rintro v6 w6 hS6))
      all_goals
        go_roundg g1
        case measure => omega
        case rel => exact ⟨i + 1, _, by omega, by go_num, rfl, Lib.hid (HW.out.push hS6)⟩
    · have hin' : ¬ (i : Int) < (E.length : Nat) := by omega
      obtain rfl : i = E.length := by omega
      obtain ⟨g, cap, cur, rfl, hgb, hg, hcap, hm, hcs, ht⟩ := HW.out.open_
      have hxw : Ext w wr := HW.out.1.1
      have hun := HUL.out E.length (Nat.le_refl _)
      have hlt := heap_lt hg
      have hC1 := slices_Sort_int g 0 cap (upN E E.length) wr (holds_of_blockI hg ht) hlt (by omega)
      have HC1 := Lib.hid hC1
      obtain ⟨xs, hxs⟩ : ∃ xs, upN E E.length = xs := ⟨_, rfl⟩
      have HXS := Lib.hid hxs
      rw [hxs] at hcap ht HC1 hun ⊢
      have HG := Lib.hid (And.intro hgb (And.intro hg (And.intro hcap (And.intro hm (And.intro hcs hxw)))))
      clear hgb hg hcap hm hcs ht hxw hlt hC1 hxs HW HUL HMT HF1 HE1 HC
      go_wp2_with fail
      refine HC1.out.mono ?_
      rintro e w2 ⟨rfl, n2, os2, hw2⟩
      obtain ⟨hgb, hg, hcap, hm, hcs, hxw⟩ := HG.out
      have hsl : (srt xs).length = xs.length := srt_len xs
      have hO2 : w2.ownsRow w.heap.size 3 1 (.slice (some ⟨g, 0, none⟩) xs.length cap) xs.length ((srt xs).map (Value.int .i64)) := by
        rw [hw2]
        exact ownsRow_sortedI hsl hgb hg hcap hm hcs
      have hX2 : Ext w w2 := by
        have hsz0 := hxw.size
        obtain ⟨g1, g2, g3, g4, g5⟩ := grownBy_sortedI (w := wr) (g := g) (n := n2) (os := os2) (srt xs).toArray
        rw [hw2]
        exact ⟨g1.trans (Below.os hxw), g2.trans (Below.tape hxw), g3.trans (Below.output hxw), Nat.le_trans hsz0 g4, fun i hi => (g5 i (by omega) (fun e => by injection e with e; omega)).trans (Below.block hxw i hi)⟩
      obtain ⟨g', cap', e', hb', hlt', hcap', hm', hl', hH⟩ := Lib.holds_of_ownsRow hO2 (by simp)
      injection e' with e1 _ e3
      injection e1 with e1
      injection e1 with e1
      subst e1 e3
      have hC2 := slices_Compact_int g 0 cap (srt xs) w2 hH (by omega) (by omega)
      rw [hsl] at hC2
      have HC2 := Lib.hid hC2
      have HO2 := Lib.hid (And.intro hO2 hX2)
      have HG2 := Lib.hid hgb
      have hclen := compact_len (srt xs)
      rw [hsl] at hclen
      clear hC2 hO2 hX2 hH hw2 hgb hg hcap hm hcs hxw hb' hlt' hcap' hm' hl' HC1 HG
      go_wp2_with fail
      refine HC2.out.mono ?_
      rintro e w3 ⟨rfl, q3, hw3⟩
      go_wp2
      go_ret
      have hO3 := Lib.ownsRow_putRow (q := q3) (ys := Lib.compact (srt xs) ++ List.replicate (xs.length - (Lib.compact (srt xs)).length) 0) HO2.out.1 (by rw [List.length_append, List.length_replicate]; omega) hclen
      rw [List.take_left' rfl] at hO3
      obtain ⟨hLf, hLb⟩ := Leaf.of_own hO3
      rw [show upN E D.length = xs by rw [← HL1.out]; exact HXS.out]
      exact ⟨_, rfl, hLf, hLb, Lib.below_putRow HO2.out.2 HG2.out⟩
set_option maxRecDepth 100000 in
set_option maxHeartbeats 4000000 in
theorem sStepsOf_any (A : Option Addr) (cp : Nat) (D : List (List Int)) (w : World) (h : Mat w A cp D) (hs : spB D = true) :
    Calls Tryz.prog 45 #[.slice A D.length cp] w (FreshI w (stpR (blwV D) 60)) := by
  have HC := Lib.hid (fun W (q : Ext w W) => sBelowOf_any A cp D W (h.ext q) (spB_far hs))
  have hse := blwV_sp (spB_far hs)
  have n6 := (spB_len hs).2
  clear h hs
  obtain ⟨E, hE⟩ : ∃ E, blwV D = E := ⟨_, rfl⟩
  rw [hE] at HC hse ⊢
  clear hE
  go_enter Tryz.func45, Tryz.ntmps45
  go_wp2_with fail
  refine (HC.out _ (Ext.alloc _ _)).mono ?_
  intro e w1 hB
  obtain ⟨A1, c1, rfl, hF1, hx1, hl1⟩ := hB.from_
  rw [← hl1] at n6
  clear hl1 hB
  have hsz1 : w.heap.size < w1.heap.size := by have := hx1.size; simp at this; omega
  have HE1 := Lib.hid hse
  have HS0 := Lib.hid (show StpS w w1 (.slice (some ⟨w.heap.size, 0, none⟩) 0 0) [] w1 from ⟨(Acc.empty (w0 := w) (w := w) 3 (Ext.refl _)).on hx1, Or.inl rfl, Nat.le_refl _, fun _ _ _ => rfl⟩)
  have HMT := Lib.hid (fun W (q : ∀ k, w.heap.size + 1 ≤ k → k < w1.heap.size → W.heap[k]? = w1.heap[k]?) => hF1 W (fun k k1 k2 => q k (by simpa using k1) k2))
  have hlm := hF1.now.1
  have hmm := hF1.now.2.1
  unfold maxLen at hmm
  clear hF1 hx1 hse
  go_wp2
  go_loopg [3, 5] 60 (fun g s3 s5 wr => ∃ (y0 : Nat) (v : Value), y0 + g = 60 ∧ s5 = .int .i64 (y0 + 1) ∧ v = s3 ∧ Hid (StpS w w1 v (stpR E y0) wr ∧ (stpR E y0).length ≤ y0))
  case atStart => exact ⟨0, _, by omega, rfl, rfl, Lib.hid ⟨HS0.out, Nat.le_refl _⟩⟩
  case round =>
    clear HS0
    obtain ⟨y0, v, hm, rfl, rfl, HW⟩ := hrel
    by_cases hin : y0 < 60
    · obtain ⟨g1, rfl⟩ : ∃ g', gk = g' + 1 := ⟨gk - 1, by omega⟩
      have hin' : (y0 : Int) + 1 ≤ 60 := by omega
      obtain ⟨wq, hq⟩ : ∃ wq : World, wq = wr := ⟨_, rfl⟩
      subst hq
      have HMW := Lib.hid (HMT.out wq HW.out.1.2.2.2)
      obtain ⟨hq1, hsq, hq3⟩ := farB_parts (spB_far HE1.out)
      obtain ⟨bk, o, rc, rb, ro, hA, hrow, hlen, hcell, hints⟩ := HMW.out.square hsq
      obtain rfl := hA (by omega)
      have HR := Lib.hid hrow
      have HCL := Lib.hid hcell
      clear hA hrow hlen hcell hints hsq hq3 hq1
      go_wp2_with fail
      go_loopg [7, 6] (E.length) (fun g s7 s6 wr => ∃ (k m : Nat) (t : Bool), k + g = E.length ∧ s7 = .int .i64 k ∧ s6 = .bool t ∧ wr = wq.drewN m ∧ Hid (itR (fun k s => fnd2 E ((y0 : Int) + 1) k k 0 s) g k t = fnd E ((y0 : Int) + 1)))
      case atStart => exact ⟨0, _, _, by omega, rfl, rfl, by first | rfl | exact drewN_0 _ | exact drewN_add _ _ _, Lib.hid (rfl)⟩
      case round =>
        obtain ⟨k, mk, t, hk, rfl, rfl, rfl, Hk⟩ := hrel
        by_cases hink : k < E.length
        · obtain ⟨gk, rfl⟩ : ∃ g', gk = g' + 1 := ⟨gk - 1, by omega⟩
          have hink' : (k : Int) < (E.length : Nat) := by omega
          go_wp2_with fail
          go_loopg [8, 6] (k) (fun g s8 s6 wr => ∃ (j m : Nat) (t2 : Bool), j + g = k ∧ s8 = .int .i64 j ∧ s6 = .bool t2 ∧ wr = wq.drewN m ∧ Hid (fnd2 E ((y0 : Int) + 1) k g j t2 = fnd2 E ((y0 : Int) + 1) k k 0 t))
          case atStart => exact ⟨0, _, _, by omega, rfl, rfl, by first | rfl | exact drewN_0 _ | exact drewN_add _ _ _, Lib.hid (rfl)⟩
          case round =>
            obtain ⟨j, mj, t2, hj, rfl, rfl, rfl, Hj⟩ := hrel
            by_cases hinj : j < k
            · obtain ⟨gj, rfl⟩ : ∃ g', gk = g' + 1 := ⟨gk - 1, by omega⟩
              have hinj' : (j : Int) < (k : Nat) := by omega
              have hjE : j < E.length := by omega
              have r1 := HR.out k hink
              have c1 := HCL.out k hink j hjE
              have Hst := Lib.hid (show fnd2 E ((y0 : Int) + 1) k (gj + 1) j t2 = fnd2 E ((y0 : Int) + 1) k gj (j + 1) (t2 || decide (at2 E k j = (y0 : Int) + 1)) from rfl)
              obtain ⟨X, hX⟩ : ∃ X, at2 E k j = X := ⟨_, rfl⟩
              rw [hX] at c1 Hst
              clear hX
              cases t2 with
              | true =>
                go_wp2_with fail
                go_roundg gj
                case measure => omega
                case rel => exact ⟨j + 1, _, true, by omega, by go_num, by first | rfl | go_num, by first | rfl | exact drewN_0 _ | exact drewN_add _ _ _, Lib.hid (by rw [← Hj.out, Hst.out]; rfl)⟩
              | false =>
                by_cases hXm : X = (y0 : Int) + 1
                · have hb : (X == (y0 : Int) + 1) = true := beq_iff_eq.2 hXm
                  have HE := Lib.hid (show (false || decide (X = (y0 : Int) + 1)) = true by rw [decide_eq_true hXm]; rfl)
                  clear hXm
                  go_wp2_with fail
                  go_roundg gj
                  case measure => omega
                  case rel => exact ⟨j + 1, _, true, by omega, by go_num, by first | rfl | go_num, by first | rfl | exact drewN_0 _ | exact drewN_add _ _ _, Lib.hid (by rw [← Hj.out, Hst.out, HE.out])⟩
                · have hb : (X == (y0 : Int) + 1) = false := beq_eq_false_iff_ne.2 hXm
                  have HE := Lib.hid (show (false || decide (X = (y0 : Int) + 1)) = false by rw [decide_eq_false hXm]; rfl)
                  clear hXm
                  go_wp2_with fail
                  go_roundg gj
                  case measure => omega
                  case rel => exact ⟨j + 1, _, false, by omega, by go_num, by first | rfl | go_num, by first | rfl | exact drewN_0 _ | exact drewN_add _ _ _, Lib.hid (by rw [← Hj.out, Hst.out, HE.out])⟩
            · have hinj' : ¬ (j : Int) < (k : Nat) := by omega
              obtain rfl : gk = 0 := by omega
              have HT := Lib.hid (show t2 = fnd2 E ((y0 : Int) + 1) k k 0 t from Hj.out)
              clear Hj
              go_wp2_with fail
              go_roundg gk
              case measure => omega
              case rel => exact ⟨k + 1, _, t2, by omega, by go_num, by first | rfl | go_num, by first | rfl | exact drewN_0 _ | exact drewN_add _ _ _, Lib.hid (by rw [← Hk.out, itR, ← HT.out])⟩
        · have hink' : ¬ (k : Int) < (E.length : Nat) := by omega
          obtain rfl : gk = 0 := by omega
          have HT := Lib.hid (show t = fnd E ((y0 : Int) + 1) from Hk.out)
          clear Hk
          have HWK := Lib.hid (show StpS w w1 v (stpR E y0) (wq.drewN mk) from HW.out.1.drewN' _)
          cases t with
          | true =>
            have HS := Lib.hid (show stpR E (y0 + 1) = stpR E y0 ++ [(y0 : Int) + 1] by show _ ++ (if fnd E ((y0 : Int) + 1) = true then _ else _) = _; rw [← HT.out]; rfl)
            have hl := HW.out.2
            have HPU := Lib.hid (app_run (P := Tryz.prog) (w0 := w) (T := 47) (E := 3) (ty := 47) Tryz.underlying47 infoI rfl (by decide) v ((stpR E y0).map (Value.int .i64)) ⟨(wq.drewN mk).heap.size, 0, none⟩ 1 1 [.int .i64 ((y0 : Int) + 1)] rfl (one_news (cell_new0 (wq.drewN mk) _ _) rfl) (map_one [(y0 : Int) + 1]) ((HWK.out.1.on (Ext.alloc (wq.drewN mk) (.cells #[.int .i64 ((y0 : Int) + 1)] 3)))) (by simp; omega))
            have HWA := Lib.hid (HWK.out.alloc' (.cells #[.int .i64 ((y0 : Int) + 1)] 3))
            clear hl HT HR HCL HMW HMT
            go_wp2_with (at_builtin; go_loud (refine wpList_ex rfl _ _ rfl _ (.slice (some ⟨_, 0, none⟩) 1 1) rfl rfl HPU.out ?_; rintro v6 w6 hS6))
            go_roundg g1
            case measure => omega
            case rel => exact ⟨y0 + 1, _, by omega, by go_num, rfl, Lib.hid ⟨by rw [HS.out]; exact HWA.out.push (ys := [(y0 : Int) + 1]) hS6, by rw [HS.out, List.length_append, List.length_singleton]; have := HW.out.2; omega⟩⟩
          | false =>
            have HS := Lib.hid (show stpR E (y0 + 1) = stpR E y0 by show _ ++ (if fnd E ((y0 : Int) + 1) = true then _ else _) = _; rw [← HT.out]; simp)
            clear HT HR HCL HMW HMT
            go_wp2_with fail
            go_roundg g1
            case measure => omega
            case rel => exact ⟨y0 + 1, _, by omega, by go_num, rfl, Lib.hid ⟨by rw [HS.out]; exact HWK.out, by rw [HS.out]; have := HW.out.2; omega⟩⟩
    · have hin' : ¬ (y0 : Int) + 1 ≤ 60 := by omega
      obtain rfl : y0 = 60 := by omega
      have ha := HW.out.1.1
      obtain ⟨hLf, hLb⟩ := Leaf.of_own ha.2
      have HF := Lib.hid (show FreshI w (stpR E 60) (.returned v) wr from ⟨_, rfl, hLf, hLb, ha.1⟩)
      clear ha hLf hLb HW HMT
      go_wp2_with fail
      go_ret
      exact HF.out
end Go.Proofs.YtnalcgcdohlfiaaGreatDoor
namespace Go.Proofs.YtnalcgcdohlfiaaGreatDoor
open Go.RowKit
theorem gp_bd {x y z : Int} (hx : 0 ≤ x ∧ x ≤ 120) (hy : 0 ≤ y ∧ y ≤ 120) (hz : 0 ≤ z ∧ z ≤ 120) : 0 ≤ gp x y z ∧ gp x y z ≤ 240 := by
  unfold gp
  omega
set_option maxRecDepth 100000 in
set_option maxHeartbeats 2000000 in
theorem l4Gap_any (A : Option Addr) (c : Nat) (x y z : Int) (w : World) (h : Ints w A c [x, y, z]) (hx : 0 ≤ x ∧ x ≤ 120) (hy : 0 ≤ y ∧ y ≤ 120) (hz : 0 ≤ z ∧ z ≤ 120) :
    Calls Tryz.prog 108 #[.slice A 3 c] w fun e w' => e = .returned (.int .i64 (gp x y z)) ∧ Ext w w' := by
  obtain ⟨-, -, b, o, hA, hc⟩ := h
  obtain rfl := hA (by simp)
  have c0 : w.cell? ⟨b, o, none⟩ = some (.int .i64 x) := hc 0 (by simp)
  have c1 : w.cell? ⟨b, o + 1, none⟩ = some (.int .i64 y) := hc 1 (by simp)
  have c2 : w.cell? ⟨b, o + 2, none⟩ = some (.int .i64 z) := hc 2 (by simp)
  have hg : gp x y z = 2 * max (max x y) z + min (min x y) z - (x + y + z) := rfl
  obtain ⟨G, hG⟩ : ∃ G, gp x y z = G := ⟨_, rfl⟩
  rw [hG] at hg ⊢
  obtain ⟨hx0, hx1⟩ := hx
  obtain ⟨hy0, hy1⟩ := hy
  obtain ⟨hz0, hz1⟩ := hz
  clear hA hc hG
  by_cases q1 : x < y <;> by_cases q2 : x < z <;> by_cases q3 : y < z <;> by_cases q4 : y < x <;> by_cases q5 : z < x <;> by_cases q6 : z < y
  all_goals first
    | (exfalso; omega)
    | (have HG := Lib.hid hg
       clear hg
       go_enter Tryz.func108, Tryz.ntmps108
       go_wp2
       go_quiet (fail)
       go_wp2
       go_quiet (fail)
       go_wp2
       go_quiet (fail)
       go_wp2
       go_ret
       exact ⟨ret_int (by have := HG.out; omega), (by repeat (first | exact Ext.refl _ | assumption | apply Ext.drewN' | apply Ext.alloc' | refine Ext.trans ?_ (by assumption)))⟩)
set_option maxRecDepth 100000 in
set_option maxHeartbeats 4000000 in
theorem sPairSums_any (A : Option Addr) (cp : Nat) (D : List (List Int)) (a b c e : Nat) (w : World) (h : Mat w A cp D) (hs : spB D = true) (ha : a < D.length) (hb : b < D.length) (hc : c < D.length) (he : e < D.length) :
    Calls Tryz.prog 107 #[.slice A D.length cp, .int .i64 a, .int .i64 b, .int .i64 c, .int .i64 e] w (FreshI w (psL D a b c e)) := by
  have HSP := Lib.hid (SpaceOk_any A cp D w h)
  rw [hs] at HSP
  have HI := Lib.hid (fun (p : Nat) (hp : p < D.length) W => (show Calls Tryz.prog 53 #[.int .i64 (p : Int), .int .i64 0, .int .i64 ((D.length : Int) - 1)] W fun e w' => e = .returned (.bool true) ∧ w' = W from by
    have e : inB (p : Nat) 0 ((D.length : Int) - 1) = true := decide_eq_true (by omega)
    have := l1In_any (p : Nat) 0 ((D.length : Int) - 1) W
    rw [e] at this
    exact this))
  obtain ⟨⟨hn1, hn6⟩, hsq, hcells⟩ := farB_parts (spB_far hs)
  have hcm := h.2.1
  have hlc := h.1
  unfold maxLen at hcm
  obtain ⟨bk, o, rc, rb, ro, hA, hrow, -, hcell, -⟩ := h.square hsq
  obtain rfl := hA (by omega)
  have ha' : (a : Int) < (D.length : Nat) := by omega
  have hb' : (b : Int) < (D.length : Nat) := by omega
  have hc' : (c : Int) < (D.length : Nat) := by omega
  have he' : (e : Int) < (D.length : Nat) := by omega
  have r1 := hrow a ha
  have r2 := hrow b hb
  have r3 := hrow c hc
  have c1 := hcell a ha b hb
  have c2 := hcell c hc e he
  have c3 := hcell a ha c hc
  have c4 := hcell b hb e he
  have c5 := hcell a ha e he
  have c6 := hcell b hb c hc
  obtain ⟨p1, q1, -, -⟩ := hcells a ha b hb
  obtain ⟨p2, q2, -, -⟩ := hcells c hc e he
  obtain ⟨p3, q3, -, -⟩ := hcells a ha c hc
  obtain ⟨p4, q4, -, -⟩ := hcells b hb e he
  obtain ⟨p5, q5, -, -⟩ := hcells a ha e he
  obtain ⟨p6, q6, -, -⟩ := hcells b hb c hc
  clear hrow hcell hcells hA h hs hsq
  go_enter Tryz.func107, Tryz.ntmps107
  go_wp2_with fail
  refine HSP.out.mono ?_
  rintro e0 w1 ⟨rfl, m1, hw1⟩
  have hx1 : Ext w w1 := by rw [hw1]; exact Ext.drewN _ _
  replace r1 := hx1.cell r1
  replace r2 := hx1.cell r2
  replace r3 := hx1.cell r3
  replace c1 := hx1.cell c1
  replace c2 := hx1.cell c2
  replace c3 := hx1.cell c3
  replace c4 := hx1.cell c4
  replace c5 := hx1.cell c5
  replace c6 := hx1.cell c6
  have HX1 := Lib.hid hx1
  clear hw1 m1 hx1
  go_wp2_with fail
  refine (HI.out a ha _).mono ?_
  rintro e1 w2 ⟨rfl, hw⟩
  rw [hw]
  clear hw w2
  go_wp2_with fail
  refine (HI.out b hb _).mono ?_
  rintro e1 w2 ⟨rfl, hw⟩
  rw [hw]
  clear hw w2
  go_wp2_with fail
  refine (HI.out c hc _).mono ?_
  rintro e1 w2 ⟨rfl, hw⟩
  rw [hw]
  clear hw w2
  go_wp2_with fail
  refine (HI.out e he _).mono ?_
  rintro e1 w2 ⟨rfl, hw⟩
  rw [hw]
  clear hw w2
  go_wp2
  go_still_tail 45, (by kernel_rfl)
  go_wp2
  go_ret
  refine Leaf.lit (xs := psL D a b c e) (HX1.out.drewN' 1) rfl (fun j hj => ?_) (by show 3 ≤ 1000; decide)
  match j, hj with
  | 0, _ => rfl
  | 1, _ => rfl
  | 2, _ => rfl
set_option maxRecDepth 100000 in
set_option maxHeartbeats 2000000 in
theorem sGapOf_any (A : Option Addr) (cp : Nat) (D : List (List Int)) (a b c e : Nat) (w : World) (h : Mat w A cp D) (hs : spB D = true) (ha : a < D.length) (hb : b < D.length) (hc : c < D.length) (he : e < D.length) :
    Calls Tryz.prog 77 #[.slice A D.length cp, .int .i64 a, .int .i64 b, .int .i64 c, .int .i64 e] w fun e' w' => e' = .returned (.int .i64 (gapI D a b c e)) ∧ Ext w w' := by
  have HC := Lib.hid (sPairSums_any A cp D a b c e w h hs ha hb hc he)
  have hbd := psL_bd (spB_far hs) ha hb hc he
  have HG := Lib.hid (gapI_gp D a b c e)
  have hp : psL D a b c e = [at2 D a b + at2 D c e, at2 D a c + at2 D b e, at2 D a e + at2 D b c] := rfl
  obtain ⟨x, hx⟩ : ∃ x, at2 D a b + at2 D c e = x := ⟨_, rfl⟩
  obtain ⟨y, hy⟩ : ∃ x, at2 D a c + at2 D b e = x := ⟨_, rfl⟩
  obtain ⟨z, hz⟩ : ∃ x, at2 D a e + at2 D b c = x := ⟨_, rfl⟩
  rw [hx, hy, hz] at hp HG
  rw [hp] at HC hbd
  have HX := Lib.hid (hbd x (by simp))
  have HY := Lib.hid (hbd y (by simp))
  have HZ := Lib.hid (hbd z (by simp))
  clear h hs hbd hp hx hy hz
  go_enter Tryz.func77, Tryz.ntmps77
  go_wp2_with fail
  refine HC.out.mono ?_
  rintro e1 w1 ⟨v, rfl, hL, hF, hx1⟩
  obtain ⟨A1, c1, rfl, hI⟩ := hL.ints
  have HI := Lib.hid hI
  have h3 : ((([x, y, z] : List Int).length : Int) == 0) = false := rfl
  clear hL hF hI
  go_wp2_with fail
  refine (l4Gap_any A1 c1 x y z w1 HI.out HX.out HY.out HZ.out).mono ?_
  rintro e2 w2 ⟨rfl, hx2⟩
  go_wp2
  go_ret
  exact ⟨ret_int HG.out.symm, hx1.trans hx2⟩
set_option maxRecDepth 100000 in
set_option maxHeartbeats 8000000 in
theorem sWorstGap_any (A : Option Addr) (cp : Nat) (D : List (List Int)) (w : World) (h : Mat w A cp D) (hs : spB D = true) :
    Calls Tryz.prog 42 #[.slice A D.length cp] w fun e w' => e = .returned (.int .i64 (wgI D)) ∧ Ext w w' := by
  rw [← wg_same hs]
  have HM := Lib.hid h
  have n6 := (spB_len hs).2
  have HSP := Lib.hid (SpaceOk_any A cp D w h)
  rw [hs] at HSP
  have HC := Lib.hid (fun (a b c e : Nat) (ha : a < D.length) (hb : b < D.length) (hc : c < D.length) (he : e < D.length) W (k : Mat W A cp D) => sGapOf_any A cp D a b c e W k hs ha hb hc he)
  have HB := Lib.hid (fun (a b c e : Nat) (ha : a < D.length) (hb : b < D.length) (hc : c < D.length) (he : e < D.length) => gapI_bd (spB_far hs) ha hb hc he)
  have hcm := h.2.1
  have hlc := h.1
  unfold maxLen at hcm
  clear hs h
  go_enter Tryz.func42, Tryz.ntmps42
  go_wp2_with fail
  refine (HSP.out).mono ?_
  rintro e w1 ⟨rfl, m1, rfl⟩
  go_wp2_with fail
  go_loopg [4, 3] (D.length) (fun g s4 s3 wr => ∃ (a : Nat) (t1 : Int), a + g = D.length ∧ s4 = .int .i64 a ∧ s3 = .int .i64 t1 ∧ Ext w wr ∧ 0 ≤ t1 ∧ t1 ≤ 240 ∧ Hid (itR (fun a s => wh3 D a a 0 s) g a t1 = whI D))
  case atStart => exact ⟨0, _, by omega, rfl, rfl, by repeat (first | exact Ext.refl _ | assumption | apply Ext.drewN' | apply Ext.alloc' | refine Ext.trans ?_ (by assumption)), by omega, by omega, Lib.hid (rfl)⟩
  case round =>
    obtain ⟨a, t1, ha, rfl, rfl, hxa, ht1, ht1', Ha⟩ := hrel
    by_cases hina : a < D.length
    · obtain ⟨ga, rfl⟩ : ∃ g', gk = g' + 1 := ⟨gk - 1, by omega⟩
      have hina' : (a : Int) < (D.length : Nat) := by omega
      go_wp2
      go_loopg [5, 3] (a) (fun g s5 s3 wr => ∃ (b : Nat) (t2 : Int), b + g = a ∧ s5 = .int .i64 b ∧ s3 = .int .i64 t2 ∧ Ext w wr ∧ 0 ≤ t2 ∧ t2 ≤ 240 ∧ Hid (wh3 D a g b t2 = wh3 D a a 0 t1))
      case atStart => exact ⟨0, _, by omega, rfl, rfl, by repeat (first | exact Ext.refl _ | assumption | apply Ext.drewN' | apply Ext.alloc' | refine Ext.trans ?_ (by assumption)), by omega, by omega, Lib.hid (rfl)⟩
      case round =>
        obtain ⟨b, t2, hb, rfl, rfl, hxb, ht2, ht2', Hb⟩ := hrel
        by_cases hinb : b < a
        · obtain ⟨gb, rfl⟩ : ∃ g', gk = g' + 1 := ⟨gk - 1, by omega⟩
          have hinb' : (b : Int) < (a : Nat) := by omega
          go_wp2
          go_loopg [6, 3] (b) (fun g s6 s3 wr => ∃ (c : Nat) (t3 : Int), c + g = b ∧ s6 = .int .i64 c ∧ s3 = .int .i64 t3 ∧ Ext w wr ∧ 0 ≤ t3 ∧ t3 ≤ 240 ∧ Hid (wh2 D a b g c t3 = wh2 D a b b 0 t2))
          case atStart => exact ⟨0, _, by omega, rfl, rfl, by repeat (first | exact Ext.refl _ | assumption | apply Ext.drewN' | apply Ext.alloc' | refine Ext.trans ?_ (by assumption)), by omega, by omega, Lib.hid (rfl)⟩
          case round =>
            obtain ⟨c, t3, hc, rfl, rfl, hxc, ht3, ht3', Hc⟩ := hrel
            by_cases hinc : c < b
            · obtain ⟨gc, rfl⟩ : ∃ g', gk = g' + 1 := ⟨gk - 1, by omega⟩
              have hinc' : (c : Int) < (b : Nat) := by omega
              go_wp2
              go_loopg [7, 3] (c) (fun g s7 s3 wr => ∃ (e : Nat) (t4 : Int), e + g = c ∧ s7 = .int .i64 e ∧ s3 = .int .i64 t4 ∧ Ext w wr ∧ 0 ≤ t4 ∧ t4 ≤ 240 ∧ Hid (wh1 D a b c g e t4 = wh1 D a b c c 0 t3))
              case atStart => exact ⟨0, _, by omega, rfl, rfl, by repeat (first | exact Ext.refl _ | assumption | apply Ext.drewN' | apply Ext.alloc' | refine Ext.trans ?_ (by assumption)), by omega, by omega, Lib.hid (rfl)⟩
              case round =>
                obtain ⟨e, t4, he, rfl, rfl, hxe, ht4, ht4', He⟩ := hrel
                by_cases hine : e < c
                · obtain ⟨ge, rfl⟩ : ∃ g', gk = g' + 1 := ⟨gk - 1, by omega⟩
                  have hine' : (e : Int) < (c : Nat) := by omega
                  have Hst := Lib.hid (show wh1 D a b c (ge + 1) e t4 = wh1 D a b c ge (e + 1) (max t4 (gapI D a b c e)) from rfl)
                  obtain ⟨g0, g1⟩ := HB.out a b c e hina (by omega) (by omega) (by omega)
                  have HCk := Lib.hid (HC.out a b c e hina (by omega) (by omega) (by omega))
                  obtain ⟨G, hG⟩ : ∃ G, gapI D a b c e = G := ⟨_, rfl⟩
                  rw [hG] at g0 g1 HCk Hst
                  clear hG
                  go_wp2_with fail
                  refine (HCk.out _ (HM.out.ext (by repeat (first | exact Ext.refl _ | assumption | apply Ext.drewN' | apply Ext.alloc' | refine Ext.trans ?_ (by assumption))))).mono ?_
                  rintro e1 w1 ⟨rfl, hx1⟩
                  by_cases hlt : t4 < G
                  · have HE := Lib.hid (show max t4 G = G by omega)
                    go_wp2
                    go_roundg ge
                    case measure => omega
                    case rel => exact ⟨e + 1, G, by omega, by go_num, by first | rfl | go_num, by repeat (first | exact Ext.refl _ | assumption | apply Ext.drewN' | apply Ext.alloc' | refine Ext.trans ?_ (by assumption)), by omega, by omega, Lib.hid (by rw [← He.out, Hst.out, HE.out])⟩
                  · have HE := Lib.hid (show max t4 G = t4 by omega)
                    go_wp2
                    go_roundg ge
                    case measure => omega
                    case rel => exact ⟨e + 1, t4, by omega, by go_num, by first | rfl | go_num, by repeat (first | exact Ext.refl _ | assumption | apply Ext.drewN' | apply Ext.alloc' | refine Ext.trans ?_ (by assumption)), by omega, by omega, Lib.hid (by rw [← He.out, Hst.out, HE.out])⟩
                · have hine' : ¬ (e : Int) < (c : Nat) := by omega
                  obtain rfl : gk = 0 := by omega
                  have HT := Lib.hid (show t4 = wh1 D a b c c 0 t3 from He.out)
                  clear He
                  go_wp2
                  go_roundg gc
                  case measure => omega
                  case rel => exact ⟨c + 1, t4, by omega, by go_num, by first | rfl | go_num, by repeat (first | exact Ext.refl _ | assumption | apply Ext.drewN' | apply Ext.alloc' | refine Ext.trans ?_ (by assumption)), by omega, by omega, Lib.hid (by rw [← Hc.out]; show _ = wh2 D a b gc (c + 1) (wh1 D a b c c 0 t3); rw [← HT.out])⟩
            · have hinc' : ¬ (c : Int) < (b : Nat) := by omega
              obtain rfl : gk = 0 := by omega
              have HT := Lib.hid (show t3 = wh2 D a b b 0 t2 from Hc.out)
              clear Hc
              go_wp2
              go_roundg gb
              case measure => omega
              case rel => exact ⟨b + 1, t3, by omega, by go_num, by first | rfl | go_num, by repeat (first | exact Ext.refl _ | assumption | apply Ext.drewN' | apply Ext.alloc' | refine Ext.trans ?_ (by assumption)), by omega, by omega, Lib.hid (by rw [← Hb.out]; show _ = wh3 D a gb (b + 1) (wh2 D a b b 0 t2); rw [← HT.out])⟩
        · have hinb' : ¬ (b : Int) < (a : Nat) := by omega
          obtain rfl : gk = 0 := by omega
          have HT := Lib.hid (show t2 = wh3 D a a 0 t1 from Hb.out)
          clear Hb
          go_wp2
          go_roundg ga
          case measure => omega
          case rel => exact ⟨a + 1, t2, by omega, by go_num, by first | rfl | go_num, by repeat (first | exact Ext.refl _ | assumption | apply Ext.drewN' | apply Ext.alloc' | refine Ext.trans ?_ (by assumption)), by omega, by omega, Lib.hid (by rw [← Ha.out, itR, ← HT.out])⟩
    · have hina' : ¬ (a : Int) < (D.length : Nat) := by omega
      obtain rfl : gk = 0 := by omega
      go_wp2
      go_ret
      exact ⟨ret_int (by rw [← Ha.out]; rfl), (by repeat (first | exact Ext.refl _ | assumption | apply Ext.drewN' | apply Ext.alloc' | refine Ext.trans ?_ (by assumption)))⟩
end Go.Proofs.YtnalcgcdohlfiaaGreatDoor
namespace Go.Proofs.YtnalcgcdohlfiaaGreatDoor
open Go.RowKit
def orN (T : List UInt8) : List UInt8 := if T = [] then askNone else T
def qPoints : List UInt8 := [112, 111, 105, 110, 116, 115]
def qWide : List UInt8 := [119, 105, 100, 101]
def qRadius : List UInt8 := [114, 97, 100, 105, 117, 115]
def qGap : List UInt8 := [103, 97, 112]
def qMedians : List UInt8 := [109, 101, 100, 105, 97, 110, 115]
def qSteps : List UInt8 := [115, 116, 101, 112, 115]
def qSplits : List UInt8 := [115, 112, 108, 105, 116, 115]
def ones (n : Nat) : List Int := List.replicate n 1
/-- a lot, a colon, and what it isolates -/
def wordT (r : List Int) : List UInt8 := dg (ix r 0) ++ 58 :: dg (ix r 1)
def splT (S : List (List Int)) : List UInt8 := Lib.join (S.map wordT) [44]
/-- the answer to a question about a space -/
def askV (D : List (List Int)) (T : List UInt8) : List UInt8 :=
  if T = qPoints then dg D.length
  else if T = qWide then dg (widI D)
  else if T = qRadius then rowT [maxI (row D (radP D)), (radP D : Int)]
  else if T = qGap then dg (wgI D)
  else if T = qMedians then rowT (medsV D (ones D.length))
  else if T = qSteps then orN (rowT (Lib.compact (srt (upN (blwV D) D.length))))
  else if T = qSplits then orN (splT (splD D))
  else twoI D T
def AskR (w : World) (T : List UInt8) (e : Ending) (w' : World) : Prop := e = .returned (tx T) ∧ Ext w w'
set_option maxHeartbeats 1000000 in
theorem orNone_any (T : List UInt8) (w : World) : Calls Tryz.prog 68 #[.string ⟨T.toArray⟩] w fun e w' => e = .returned (tx (orN T)) ∧ w' = w := by
  by_cases h : T = []
  · have HE := Lib.hid (show orN T = askNone from if_pos h)
    have h' : T.isEmpty = true := by rw [h]; rfl
    clear h
    go_enter Tryz.func68, Tryz.ntmps68
    go_wp2
    go_ret
    exact ⟨by rw [HE.out]; rfl, rfl⟩
  · have HE := Lib.hid (show orN T = T from if_neg h)
    have h' : T.isEmpty = false := by
      cases T with
      | nil => exact absurd rfl h
      | cons a l => rfl
    clear h
    go_enter Tryz.func68, Tryz.ntmps68
    go_wp2
    go_ret
    exact ⟨by rw [HE.out]; rfl, rfl⟩
theorem Tab.ext {w w' : World} (h : Tab w) (k : Ext w w') : Tab w' := by
  unfold Tab Lib.TabIs World.var? at h ⊢
  cases hg : Program.globalNamed Tryz.prog "internal/strconv.uint64pow10" with
  | none => rw [hg] at h; cases h
  | some g =>
    rw [hg] at h
    simp only [Option.bind_some] at h ⊢
    cases hb : w.heap[g]? with
    | none => rw [hb] at h; cases h
    | some o =>
      rw [(k.block (heap_lt hb)).trans hb]
      rw [hb] at h
      exact h
set_option maxRecDepth 100000 in
set_option maxHeartbeats 2000000 in
theorem asked_points (A : Option Addr) (cp : Nat) (D : List (List Int)) (w : World) (hs : spB D = true) (ht : Tab w) :
    Calls Tryz.prog 37 #[.slice A D.length cp, .string ⟨#[112, 111, 105, 110, 116, 115]⟩] w (AskR w (dg D.length)) := by
  have n6 := (spB_len hs).2
  have HT := Lib.hid (itoa_z (D.length : Int) (by omega) w ht)
  clear hs ht
  go_enter Tryz.func37, Tryz.ntmps37
  go_wp2_with fail
  refine HT.out.mono ?_
  rintro e w1 ⟨rfl, hx1⟩
  go_wp2
  go_ret
  exact ⟨rfl, hx1⟩
set_option maxRecDepth 100000 in
set_option maxHeartbeats 2000000 in
theorem asked_wide (A : Option Addr) (cp : Nat) (D : List (List Int)) (w : World) (h : Mat w A cp D) (hs : spB D = true) (ht : Tab w) :
    Calls Tryz.prog 37 #[.slice A D.length cp, .string ⟨#[119, 105, 100, 101]⟩] w (AskR w (dg (widI D))) := by
  have HW := Lib.hid (iWidthOf_any A cp D w h hs)
  have hb := widI_bd hs
  have HT := Lib.hid (fun W (q : Ext w W) => itoa_z (widI D) (by omega) W (ht.ext q))
  clear h hs ht hb
  go_enter Tryz.func37, Tryz.ntmps37
  go_wp2_with fail
  refine HW.out.mono ?_
  rintro e w1 ⟨rfl, m1, rfl⟩
  go_wp2_with fail
  refine (HT.out _ (Ext.drewN _ _)).mono ?_
  rintro e w2 ⟨rfl, hx2⟩
  go_wp2
  go_ret
  exact ⟨rfl, (Ext.drewN _ _).trans hx2⟩
set_option maxRecDepth 100000 in
set_option maxHeartbeats 2000000 in
theorem asked_gap (A : Option Addr) (cp : Nat) (D : List (List Int)) (w : World) (h : Mat w A cp D) (hs : spB D = true) (ht : Tab w) :
    Calls Tryz.prog 37 #[.slice A D.length cp, .string ⟨#[103, 97, 112]⟩] w (AskR w (dg (wgI D))) := by
  have HW := Lib.hid (worstGap_any A cp D w h (spB_far hs))
  have hb := wgI_60 hs
  have hb2 := wgI_pos D
  have HT := Lib.hid (fun W (q : Ext w W) => itoa_z (wgI D) (by omega) W (ht.ext q))
  clear h hs ht hb hb2
  go_enter Tryz.func37, Tryz.ntmps37
  go_wp2_with fail
  refine HW.out.mono ?_
  rintro e w1 ⟨rfl, hx1⟩
  go_wp2_with fail
  refine (HT.out _ hx1).mono ?_
  rintro e w2 ⟨rfl, hx2⟩
  go_wp2
  go_ret
  exact ⟨rfl, hx1.trans hx2⟩
set_option maxRecDepth 100000 in
set_option maxHeartbeats 2000000 in
theorem asked_radius (A : Option Addr) (cp : Nat) (D : List (List Int)) (w : World) (h : Mat w A cp D) (hs : spB D = true) :
    Calls Tryz.prog 37 #[.slice A D.length cp, .string ⟨#[114, 97, 100, 105, 117, 115]⟩] w (AskR w (rowT [maxI (row D (radP D)), (radP D : Int)])) := by
  have HW := Lib.hid (iRadius_x A cp D w h hs)
  obtain ⟨n1, n6⟩ := spB_len hs
  have hlt := radP_lt (D := D) (by omega)
  have hb := row_bd hs hlt
  obtain ⟨r, hr⟩ : ∃ r, maxI (row D (radP D)) = r := ⟨_, rfl⟩
  rw [hr] at HW hb ⊢
  obtain ⟨p, hp⟩ : ∃ r, radP D = r := ⟨_, rfl⟩
  rw [hp] at HW hlt ⊢
  have HN := Lib.hid (fun A c W (q : Ints W A c [r, (p : Int)]) => numbersText_any A c [r, (p : Int)] W q (fun i hi => by
    match i, hi with
    | 0, _ => show 0 ≤ r ∧ r ≤ 99; omega
    | 1, _ => show 0 ≤ (p : Int) ∧ (p : Int) ≤ 99; omega) (by simp))
  clear h hs hb hlt hr hp
  go_enter Tryz.func37, Tryz.ntmps37
  go_wp2_with fail
  refine HW.out.mono ?_
  rintro e w1 ⟨rfl, m1, rfl⟩
  have hI : Ints ((w.drewN m1).alloc (.cells #[.int .i64 r, .int .i64 p] 3)) (some ⟨(w.drewN m1).heap.size, 0, none⟩) 2 [r, (p : Int)] := by
    refine ⟨Nat.le_refl _, by unfold maxLen; omega, _, 0, fun _ => rfl, fun j hj => ?_⟩
    obtain ⟨c0, c1⟩ := two_cells (heap_alloc_new (w.drewN m1) (.cells #[.int .i64 r, .int .i64 p] 3))
    match j, hj with
    | 0, _ => exact c0
    | 1, _ => exact c1
  have HI := Lib.hid hI
  clear hI
  go_wp2_with fail
  refine (HN.out _ _ _ HI.out).mono ?_
  rintro e w2 ⟨rfl, hx2⟩
  go_wp2
  go_ret
  exact ⟨rfl, ((Ext.drewN _ _).alloc' _).trans hx2⟩
theorem ones_len (n : Nat) : (ones n).length = n := List.length_replicate
theorem ones_w {D : List (List Int)} (hs : spB D = true) : weightsB D (ones D.length) = true := by
  have h1 : ∀ i, i < (ones D.length).length → ix (ones D.length) i = 1 := fun i hi => by
    rw [ix_of hi]
    exact (List.mem_replicate.1 (List.getElem_mem hi)).2
  unfold weightsB wtB
  rw [(allR_all _ _).2 fun i hi => by rw [h1 i hi]; rfl, hs, decide_eq_true (ones_len _)]
  rfl
theorem ones_succ (n : Nat) : (ones (n + 1)).map (Value.int .i64) = (ones n).map (Value.int .i64) ++ [.int .i64 1] := by
  unfold ones
  rw [List.replicate_succ', List.map_append]
  rfl
theorem selN_ix (p : Nat → Bool) (n : Nat) : ∀ i, i < (selN p n).length → 0 ≤ ix (selN p n) i ∧ ix (selN p n) i < n := fun i hi => by
  have hm : ix (selN p n) i ∈ selN p n := by rw [ix_of hi]; exact List.getElem_mem _
  rw [selN_eq] at hm
  obtain ⟨k, hk, e⟩ := List.mem_map.1 hm
  have := List.mem_range.1 (List.mem_filter.1 hk).1
  rw [selN_eq, ← e]
  omega
theorem meds_ne {D : List (List Int)} {ws : List Int} (hn : 0 < D.length) : selN (medP D ws) D.length ≠ [] := by
  obtain ⟨-, j, hj, e⟩ := least_spec (sumP D ws) D.length hn
  intro h
  rw [selN_eq, List.map_eq_nil_iff] at h
  have hm : j ∈ (List.range D.length).filter (medP D ws) := List.mem_filter.2 ⟨List.mem_range.2 hj, by
    unfold medP leastS
    exact decide_eq_true e.symm⟩
  rw [h] at hm
  cases hm
theorem medsV_ones {D : List (List Int)} (hs : spB D = true) : medsV D (ones D.length) = selN (medP D (ones D.length)) D.length := if_pos (ones_w hs)
set_option maxRecDepth 100000 in
set_option maxHeartbeats 4000000 in
theorem asked_medians (A : Option Addr) (cp : Nat) (D : List (List Int)) (w : World) (h : Mat w A cp D) (hs : spB D = true) :
    Calls Tryz.prog 37 #[.slice A D.length cp, .string ⟨#[109, 101, 100, 105, 97, 110, 115]⟩] w (AskR w (rowT (medsV D (ones D.length)))) := by
  rw [medsV_ones hs]
  obtain ⟨n1, n6⟩ := spB_len hs
  have hcm := h.2.1
  have hlc := h.1
  unfold maxLen at hcm
  have hol := ones_len D.length
  have HME := Lib.hid (fun W (q : Ext w W) B d (k : Ints W B d (ones D.length)) => mediansOf_any A cp D B d (ones D.length) W (h.ext q) k (ones_w hs))
  rw [hol] at HME
  have hne := rowT_ne (meds_ne (D := D) (ws := ones D.length) (by omega))
  have hsx := selN_ix (medP D (ones D.length)) D.length
  have hsl := selN_len (medP D (ones D.length)) D.length
  obtain ⟨xs, hxs⟩ : ∃ xs, selN (medP D (ones D.length)) D.length = xs := ⟨_, rfl⟩
  rw [hxs] at HME hne hsx hsl ⊢
  have HN := Lib.hid (fun A c W (q : Ints W A c xs) => numbersText_any A c xs W q (fun i hi => by have := hsx i hi; omega) (by omega))
  have HO := Lib.hid (show orN (rowT xs) = rowT xs from if_neg hne)
  have HOL := Lib.hid hol
  obtain ⟨T, hT⟩ : ∃ T, rowT xs = T := ⟨_, rfl⟩
  rw [hT] at HN HO ⊢
  clear h hs hol hne hsx hsl hxs hT
  go_enter Tryz.func37, Tryz.ntmps37
  go_wp2_with fail
  go_loopg [8, 50] D.length (fun g s8 s50 wr => ∃ (i : Nat) (v : Value), i + g = D.length ∧ s50 = .int .i64 i ∧ v = s8 ∧ Hid (Acc w wr 3 v ((ones i).map (Value.int .i64))))
  case atStart => exact ⟨0, _, by omega, rfl, rfl, Lib.hid (Acc.empty _ (Ext.refl _))⟩
  case round =>
    obtain ⟨i, v, hi, rfl, rfl, HW⟩ := hrel
    by_cases hin : i < D.length
    · obtain ⟨g1, rfl⟩ : ∃ g', gk = g' + 1 := ⟨gk - 1, by omega⟩
      have hin' : (i : Int) < (D.length : Nat) := by omega
      have HPU := Lib.hid (app_run (P := Tryz.prog) (w0 := w) (T := 47) (E := 3) (ty := 47) Tryz.underlying47 infoI rfl (by decide) v ((ones i).map (Value.int .i64)) ⟨wr.heap.size, 0, none⟩ 1 1 [.int .i64 1] rfl (one_news (cell_new0 wr _ _) rfl) (map_one [1]) (HW.out.on (Ext.alloc wr (.cells #[.int .i64 1] 3))) (by simp [ones]; omega))
      have HS := Lib.hid (ones_succ i)
      clear HW
      go_wp2_with (at_builtin; go_loud (refine wpList_ex rfl _ _ rfl _ (.slice (some ⟨_, 0, none⟩) 1 1) rfl rfl HPU.out ?_; rintro v6 w6 hS6))
      go_roundg g1
      case measure => omega
      case rel => exact ⟨i + 1, _, by omega, by go_num, rfl, Lib.hid (by rw [HS.out]; exact hS6.1)⟩
    · have hin' : ¬ (i : Int) < (D.length : Nat) := by omega
      obtain rfl : i = D.length := by omega
      have ha := HW.out
      obtain ⟨hLf, -⟩ := Leaf.of_own ha.2
      obtain ⟨A8, c8, hv, hI⟩ := hLf.ints
      rw [HOL.out] at hv
      subst hv
      have HI := Lib.hid hI
      have HX := Lib.hid ha.1
      clear ha hLf hI HW
      go_wp2_with fail
      refine (HME.out _ HX.out _ _ HI.out).mono ?_
      rintro e w1 ⟨v1, rfl, hL1, -, hx1⟩
      obtain ⟨A9, c9, rfl, hI1⟩ := hL1.ints
      have HI1 := Lib.hid hI1
      have HX1 := Lib.hid (HX.out.trans hx1)
      clear hL1 hI1 hx1
      go_wp2_with fail
      refine (HN.out _ _ _ HI1.out).mono ?_
      rintro e w2 ⟨rfl, hx2⟩
      unfold tx
      go_wp2_with fail
      refine (orNone_any T _).mono ?_
      rintro e w3 ⟨rfl, rfl⟩
      go_wp2
      go_ret
      rw [HO.out]
      exact ⟨rfl, HX1.out.trans hx2⟩
theorem steps_bd {E : List (List Int)} (hs : spB E = true) : (∀ i, i < (Lib.compact (srt (upN E E.length))).length → 0 ≤ ix (Lib.compact (srt (upN E E.length))) i ∧ ix (Lib.compact (srt (upN E E.length))) i ≤ 99) ∧ (Lib.compact (srt (upN E E.length))).length ≤ 36 := by
  refine ⟨fun i hi => ?_, ?_⟩
  · rw [steps_same hs] at hi ⊢
    have hm : ix (stpR E 60) i ∈ stpR E 60 := by rw [ix_of hi]; exact List.getElem_mem _
    have := (((stpR_spec E 60).2 _).1 hm).1
    omega
  · have h1 := compact_len (srt (upN E E.length))
    rw [srt_len] at h1
    obtain ⟨⟨n1, n6⟩, hsq, -⟩ := farB_parts (spB_far hs)
    have h2 := upN_len hsq n6 E.length (Nat.le_refl _)
    omega
set_option maxRecDepth 100000 in
set_option maxHeartbeats 4000000 in
theorem asked_steps (A : Option Addr) (cp : Nat) (D : List (List Int)) (w : World) (h : Mat w A cp D) (hs : spB D = true) :
    Calls Tryz.prog 37 #[.slice A D.length cp, .string ⟨#[115, 116, 101, 112, 115]⟩] w (AskR w (orN (rowT (Lib.compact (srt (upN (blwV D) D.length)))))) := by
  have HC := Lib.hid (stepsOf_any A cp D w h hs)
  have hl : (blwV D).length = D.length := (blwV_p (spB_far hs)).1.2
  have hbd := steps_bd (blwV_sp (spB_far hs))
  rw [hl] at hbd
  obtain ⟨xs, hxs⟩ : ∃ xs, Lib.compact (srt (upN (blwV D) D.length)) = xs := ⟨_, rfl⟩
  rw [hxs] at HC hbd ⊢
  have HN := Lib.hid (fun A c W (q : Ints W A c xs) => numbersText_any A c xs W q hbd.1 (by omega))
  obtain ⟨T, hT⟩ : ∃ T, rowT xs = T := ⟨_, rfl⟩
  rw [hT] at HN ⊢
  clear h hs hl hbd hxs hT
  go_enter Tryz.func37, Tryz.ntmps37
  go_wp2_with fail
  refine HC.out.mono ?_
  rintro e w1 ⟨v1, rfl, hL1, -, hx1⟩
  obtain ⟨A9, c9, rfl, hI1⟩ := hL1.ints
  have HI1 := Lib.hid hI1
  have HX1 := Lib.hid hx1
  clear hL1 hI1 hx1
  go_wp2_with fail
  refine (HN.out _ _ _ HI1.out).mono ?_
  rintro e w2 ⟨rfl, hx2⟩
  unfold tx
  go_wp2_with fail
  refine (orNone_any T _).mono ?_
  rintro e w3 ⟨rfl, rfl⟩
  go_wp2
  go_ret
  exact ⟨rfl, HX1.out.trans hx2⟩
/-- strings.Join of texts of one's own, with commas -/
theorem join_any {w0 W : World} {v : Value} {ps : List (List UInt8)} (h : Acc w0 W 9 v (ps.map tx)) (hl : ps.length ≤ 10000000) (hs : (Lib.join ps [44]).length ≤ 1000000) :
    Calls Tryz.prog 72 #[v, .string ⟨#[44]⟩] W fun e w' => e = .returned (tx (Lib.join ps [44])) ∧ Ext W w' := by
  have hlen : (ps.map tx).length = ps.length := by simp
  obtain ⟨-, -, h2⟩ := h
  rcases h2 with ⟨rfl, h0⟩ | ⟨g, cap, cur, rfl, hb, hg, hcap, hm, hq, ht⟩
  · rw [hlen] at h0
    have e0 : ps = [] := List.eq_nil_of_length_eq_zero h0
    subst e0
    refine (strings_Join_none none 0 ⟨#[44]⟩ W).mono ?_
    rintro e w5 ⟨rfl, rfl⟩
    exact ⟨rfl, Ext.refl _⟩
  · rw [hlen] at hcap ht ⊢
    have hjoin : (Lib.join ((ps.map fun p => (⟨p.toArray⟩ : ByteArray)).map (·.data.toList)) [44]) = Lib.join ps [44] := by
      rw [List.map_map]
      congr 1
      conv => rhs; rw [← List.map_id ps]
      rfl
    have hcells : ∀ (j : Nat) x, (ps.map fun p => (⟨p.toArray⟩ : ByteArray))[j]? = some x → W.cell? ⟨g, 0 + j, none⟩ = some (.string x) := fun j x hj => by
      have hjl : j < ps.length := by
        have := (List.getElem?_eq_some_iff.1 hj).1
        simpa using this
      rw [cell_cells hg, Nat.zero_add]
      have e : (cur.toList.take (ps.length * 1))[j]? = (ps.map tx)[j]? := by rw [ht]
      rw [List.getElem?_take, if_pos (by omega)] at e
      rw [← Array.getElem?_toList, e]
      simp [hjl] at hj ⊢
      rw [← hj]; rfl
    have HJ0 := strings_Join g 0 cap (ps.map fun p => (⟨p.toArray⟩ : ByteArray)) ⟨#[44]⟩ W hcells (heap_lt hg) (by simp; omega) (by simpa using hcap) (by
      show (Lib.join _ [44]).length ≤ _
      rw [hjoin]; omega)
    rw [show (Lib.join ((ps.map fun p => (⟨p.toArray⟩ : ByteArray)).map (·.data.toList)) ((⟨#[44]⟩ : ByteArray).data.toList)) = Lib.join ps [44] from hjoin, List.length_map] at HJ0
    refine HJ0.mono ?_
    rintro e w5 ⟨rfl, hx5⟩
    exact ⟨rfl, hx5⟩
theorem joinTail_len {n : Nat} : ∀ {ps : List (List UInt8)}, (∀ p ∈ ps, p.length ≤ n) → (Lib.joinTail [44] ps).length ≤ (n + 1) * ps.length
  | [], _ => Nat.zero_le _
  | p :: ps, h => by
    have h1 := joinTail_len (ps := ps) fun q hq => h q (List.mem_cons_of_mem _ hq)
    have h2 := h p List.mem_cons_self
    show (([44] ++ p) ++ Lib.joinTail [44] ps).length ≤ _
    have e : ([44] : List UInt8).length = 1 := rfl
    have e2 : (p :: ps).length = ps.length + 1 := rfl
    rw [List.length_append, List.length_append, e, e2, Nat.mul_add, Nat.mul_one]
    omega
theorem join_len {n : Nat} {ps : List (List UInt8)} (h : ∀ p ∈ ps, p.length ≤ n) : (Lib.join ps [44]).length ≤ (n + 1) * ps.length := by
  cases ps with
  | nil => simp [Lib.join, List.intercalate]
  | cons p ps =>
    have h1 := joinTail_len (ps := ps) fun q hq => h q (List.mem_cons_of_mem _ hq)
    have h2 := h p List.mem_cons_self
    rw [Lib.join_cons, List.length_append, List.length_cons, Nat.mul_add, Nat.mul_one]
    omega
/-- rows of a lot and what it isolates -/
def Lots (S : List (List Int)) : Prop := S.length ≤ 32 ∧ ∀ i, i < S.length → (row S i).length = 2 ∧ (0 ≤ at2 S i 0 ∧ at2 S i 0 < 1000) ∧ (0 ≤ at2 S i 1 ∧ at2 S i 1 < 1000)
theorem splD_lots {D : List (List Int)} (hs : spB D = true) : Lots (splD D) := by
  obtain ⟨h1, h2⟩ := splD_rows hs
  exact ⟨h1, fun i hi => by obtain ⟨g1, g2, g3, g4, g5⟩ := h2 i hi; exact ⟨g1, by omega, by omega⟩⟩
theorem wordT_at {S : List (List Int)} {i : Nat} : wordT (row S i) = dg (at2 S i 0) ++ 58 :: dg (at2 S i 1) := rfl
theorem lots_word {S : List (List Int)} (h : Lots S) {i : Nat} (hi : i < S.length) : (wordT (row S i)).length ≤ 7 := by
  obtain ⟨-, g2, g3⟩ := h.2 i hi
  have h1 := dg_len g2
  have h2 := dg_len g3
  rw [wordT_at, List.length_append, List.length_cons]
  omega
theorem splT_len {S : List (List Int)} (h : Lots S) : (splT S).length ≤ 256 := by
  have h1 := join_len (n := 7) (ps := S.map wordT) fun p hp => by
    obtain ⟨r, hr, rfl⟩ := List.mem_map.1 hp
    obtain ⟨i, hi, rfl⟩ := List.getElem_of_mem hr
    have := lots_word h hi
    rw [row_of hi] at this
    exact this
  rw [List.length_map] at h1
  have := h.1
  unfold splT
  omega
theorem take_word {S : List (List Int)} {i : Nat} (hi : i < S.length) : ((S.take (i + 1)).map wordT).map tx = ((S.take i).map wordT).map tx ++ [tx (wordT (row S i))] := by
  rw [List.take_succ_eq_append_getElem hi, List.map_append, List.map_append, row_of hi]
  rfl
theorem lots_cells {w : World} {A : Option Addr} {c : Nat} {S : List (List Int)} (h : Mat w A c S) (h2 : Lots S) :
    ∃ (b o : Nat) (rc rb ro : Nat → Nat), (0 < S.length → A = some ⟨b, o, none⟩) ∧
      (∀ i, i < S.length → w.cell? ⟨b, o + i, none⟩ = some (.slice (some ⟨rb i, ro i, none⟩) 2 (rc i))) ∧
      (∀ i, i < S.length → w.cell? ⟨rb i, ro i, none⟩ = some (.int .i64 (at2 S i 0)) ∧ w.cell? ⟨rb i, ro i + 1, none⟩ = some (.int .i64 (at2 S i 1))) := by
  obtain ⟨b, o, Q, rc, rb, ro, hA, k1, -, k3, k4, -⟩ := h.parts
  refine ⟨b, o, rc, rb, ro, hA, fun i hi => ?_, fun i hi => ⟨?_, ?_⟩⟩
  · have e := (h2.2 i hi).1
    rw [k1 i hi, k3 i hi (by omega), e]
  · have e := (h2.2 i hi).1
    have := k4 i hi 0 (by omega)
    rwa [Nat.add_zero] at this
  · have e := (h2.2 i hi).1
    exact k4 i hi 1 (by omega)
set_option maxRecDepth 100000 in
set_option maxHeartbeats 4000000 in
theorem asked_splits (A : Option Addr) (cp : Nat) (D : List (List Int)) (w : World) (h : Mat w A cp D) (hs : spB D = true) (ht : Tab w) :
    Calls Tryz.prog 37 #[.slice A D.length cp, .string ⟨#[115, 112, 108, 105, 116, 115]⟩] w (AskR w (orN (splT (splD D)))) := by
  have HC := Lib.hid (fun W (q : Ext w W) => splitsOf_any A cp D W (h.ext q) hs)
  have hlt := splD_lots hs
  have HIT := Lib.hid (fun (x : Int) W (q : Ext w W) (hx : 0 ≤ x ∧ x < 1000) => itoa_z x hx W (ht.ext q))
  clear h hs ht
  obtain ⟨S, hS⟩ : ∃ S, splD D = S := ⟨_, rfl⟩
  rw [hS] at HC hlt ⊢
  have HLT := Lib.hid hlt
  have hl32 := hlt.1
  clear hS hlt
  go_enter Tryz.func37, Tryz.ntmps37
  go_wp2_with fail
  refine (HC.out _ (Ext.alloc _ _)).mono ?_
  rintro e w1 ⟨A1, c1, V, rfl, hL1, -, -, hx1⟩
  have HA0 := Lib.hid (show Acc w w1 9 (.slice (some ⟨w.heap.size, 0, none⟩) 0 0) (((S.take 0).map wordT).map tx) from (Acc.empty (w0 := w) (w := w) 9 (Ext.refl _)).on hx1)
  have HL1 := Lib.hid hL1
  have hc1 := hL1.1
  have hc2 := hL1.2.1
  unfold maxLen at hc2
  clear hL1 hx1
  go_wp2_with fail
  go_loopg [9, 73] S.length (fun g s9 s73 wr => ∃ (i : Nat) (v : Value), i + g = S.length ∧ s73 = .int .i64 i ∧ v = s9 ∧ Hid (Acc w wr 9 v (((S.take i).map wordT).map tx) ∧ MatL wr A1 c1 S V))
  case atStart => exact ⟨0, _, by omega, rfl, rfl, Lib.hid ⟨HA0.out, HL1.out⟩⟩
  case round =>
    clear HA0
    obtain ⟨i, v, hi, rfl, rfl, HW⟩ := hrel
    by_cases hin : i < S.length
    · obtain ⟨g1, rfl⟩ : ∃ g', gk = g' + 1 := ⟨gk - 1, by omega⟩
      have hin' : (i : Int) < (S.length : Nat) := by omega
      obtain ⟨b, o, rc, rb, ro, hA, hrow, hcell⟩ := lots_cells HW.out.2.mat HLT.out
      obtain rfl := hA (by omega)
      have r1 := hrow i hin
      obtain ⟨c0, c1'⟩ := hcell i hin
      obtain ⟨-, hx0, hx1⟩ := HLT.out.2 i hin
      have HTW := Lib.hid (take_word hin)
      have hwt : wordT (row S i) = dg (at2 S i 0) ++ 58 :: dg (at2 S i 1) := rfl
      obtain ⟨x, hx⟩ : ∃ x, at2 S i 0 = x := ⟨_, rfl⟩
      obtain ⟨y, hy⟩ : ∃ x, at2 S i 1 = x := ⟨_, rfl⟩
      rw [hx] at c0 hx0 hwt
      rw [hy] at c1' hx1 hwt
      have hP3 := dg_len hx0
      have hQ3 := dg_len hx1
      have HX0 := Lib.hid hx0
      have HX1 := Lib.hid hx1
      have hx0' : 0 ≤ x ∧ x < 1000 := hx0
      have HITx := Lib.hid (fun W (q : Ext w W) => HIT.out x W q hx0)
      have HITy := Lib.hid (fun W (q : Ext w W) => HIT.out y W q hx1)
      obtain ⟨P, hP⟩ : ∃ P, dg x = P := ⟨_, rfl⟩
      obtain ⟨Q, hQ⟩ : ∃ P, dg y = P := ⟨_, rfl⟩
      rw [hP] at hP3 hwt HITx
      rw [hQ] at hQ3 hwt HITy
      obtain ⟨P1, hP1⟩ : ∃ r, P ++ [58] = r := ⟨_, rfl⟩
      obtain ⟨P2, hP2⟩ : ∃ r, P1 ++ Q = r := ⟨_, rfl⟩
      have e1 : ((⟨P.toArray⟩ : ByteArray) ++ ⟨#[58]⟩) = ⟨P1.toArray⟩ := by rw [← hP1]; exact tx_add P [58]
      have e2 : ((⟨P1.toArray⟩ : ByteArray) ++ ⟨Q.toArray⟩) = ⟨P2.toArray⟩ := by rw [← hP2]; exact tx_add P1 Q
      have hl1 : P1.length ≤ 4 := by rw [← hP1, List.length_append, List.length_singleton]; omega
      have nl1 : ¬ 9223372036854775807 < P.length + 1 := by omega
      have nl2 : ¬ 9223372036854775807 < P1.length + Q.length := by omega
      have hw2 : wordT (row S i) = P2 := by rw [hwt, ← hP2, ← hP1]; simp
      rw [hw2] at HTW
      have HWX := Lib.hid HW.out.1.x
      have HPU := Lib.hid (fun W (q : Ext wr W) => app_run (P := Tryz.prog) (w0 := w) (T := 27) (E := 9) (ty := 27) Tryz.underlying27 infoS rfl (by decide) v (((S.take i).map wordT).map tx) ⟨W.heap.size, 0, none⟩ 1 1 [tx P2] rfl (one_news (cell_new0 W _ _) rfl) (fun u hu => by simp at hu; rw [hu]; rfl) (HW.out.1.on (q.trans (Ext.alloc W (.cells #[tx P2] 9)))) (by simp; omega))
      have HMK := Lib.hid (fun W (q : Ext wr W) => And.intro (HW.out.2.ext q) (HW.out.1.on q).2)
      unfold tx at HPU
      clear hA hrow hcell hx hy hP hQ hP1 hP2 hwt hw2 HIT HW hx0 hx1 hx0'
      go_wp2_with fail
      go_region_law (first | (refine step_ex (R := fun v' w' => Acc w w' 9 v' (((S.take i).map wordT).map tx ++ [.string ⟨P2.toArray⟩]) ∧ Beside v (wq2.alloc (.cells #[.string ⟨P2.toArray⟩] 9)) w' ∧ Stays v v' (wq2.alloc (.cells #[.string ⟨P2.toArray⟩] 9)).heap.size) rfl _ _ rfl v (.slice (some ⟨wq2.heap.size, 0, none⟩) 1 1) rfl rfl (HPU.out wq2 hr2) ?_; rintro v6 w6 hS6) | (go_simp; go_at_call 63; (fail_if_success (have q := hq1)); refine (HITx.out _ (by repeat (first | exact HWX.out | apply Ext.alloc' | apply Ext.drew'))).mono ?_; rintro e wq1 ⟨rfl, hq1⟩; have hr1 : Ext wr wq1 := Ext.trans (by repeat (first | exact Ext.refl _ | apply Ext.drew')) hq1; have k0 := hr1.cell c0; have k1 := hr1.cell c1'; unfold tx) | (go_simp; go_at_call 63; (fail_if_success (have q := hq2)); refine (HITy.out _ (by repeat (first | exact HWX.out.trans hr1 | apply Ext.alloc' | apply Ext.drew'))).mono ?_; rintro e wq2 ⟨rfl, hq2⟩; have hr2 := hr1.trans hq2; unfold tx))
      all_goals
        go_wp2_with fail
        go_roundg g1
        case measure => omega
        case rel => exact ⟨i + 1, _, by omega, by go_num, rfl, Lib.hid ⟨by rw [HTW.out]; exact hS6.1, by
          have hm := HMK.out _ (hr2.trans (Ext.alloc wq2 (.cells #[.string ⟨P2.toArray⟩] 9)))
          exact hm.1.keepR (fun g cs t fz hg ht => (hS6.2.1.block hm.2 (by rcases ht with e | e <;> (rw [e]; decide)) hg).trans hg.symm)⟩⟩
    · have hin' : ¬ (i : Int) < (S.length : Nat) := by omega
      obtain rfl : i = S.length := by omega
      have ha := HW.out.1
      rw [List.take_length] at ha
      have HJ := Lib.hid (join_any ha (by rw [List.length_map]; omega) (by have := splT_len HLT.out; unfold splT at this; omega))
      have HX := Lib.hid ha.x
      obtain ⟨T, hT⟩ : ∃ T, splT S = T := ⟨_, rfl⟩
      have hT2 : Lib.join (S.map wordT) [44] = T := hT
      rw [hT2] at HJ
      have HTT := Lib.hid hT
      clear ha hT hT2 HW
      go_wp2_with fail
      refine HJ.out.mono ?_
      rintro e w2 ⟨rfl, hx2⟩
      unfold tx
      go_wp2_with fail
      refine (orNone_any T _).mono ?_
      rintro e w3 ⟨rfl, rfl⟩
      go_wp2
      go_ret
      rw [HTT.out]
      exact ⟨rfl, HX.out.trans hx2⟩
end Go.Proofs.YtnalcgcdohlfiaaGreatDoor
namespace Go.Proofs.YtnalcgcdohlfiaaGreatDoor
open Go.RowKit
theorem ne_b {T P : List UInt8} (h : T ≠ P) : (T == P) = false := beq_eq_false_iff_ne.2 h
/-- no question of one word -/
def NotQ (T : List UInt8) : Prop := T ≠ qPoints ∧ T ≠ qWide ∧ T ≠ qRadius ∧ T ≠ qGap ∧ T ≠ qMedians ∧ T ≠ qSteps ∧ T ≠ qSplits
theorem has_any (R : List UInt8) (w : World) (hl : R.length ≤ 1048576) (hm : ∃ m, w.cell? ⟨1, 0, none⟩ = some (.int .i64 m)) :
    Calls Tryz.prog 73 #[.string ⟨R.toArray⟩, .string ⟨#[32]⟩] w fun e w' => e = .returned (.bool (Lib.contains R [32])) ∧ w' = w := by
  obtain ⟨m, hm⟩ := hm
  have hsz := tx_size R
  exact strings_Contains ⟨R.toArray⟩ ⟨#[32]⟩ m w (by omega) hm
set_option maxRecDepth 100000 in
set_option maxHeartbeats 4000000 in
theorem asked_no (A : Option Addr) (cp : Nat) (D : List (List Int)) (T : List UInt8) (w : World) (hq : NotQ T) (hl : T.length ≤ 1048576) (hE : Env w) (hH : cutH 32 T = false) :
    Calls Tryz.prog 37 #[.slice A D.length cp, .string ⟨T.toArray⟩] w (AskR w askWhat) := by
  have HC := Lib.hid (fun W (q : Ext w W) => cut_any 32 T W hl (hE.ext q).2.1)
  rw [hH] at HC
  obtain ⟨q1, q2, q3, q4, q5, q6, q7⟩ := hq
  have b1 := ne_b q1
  have b2 := ne_b q2
  have b3 := ne_b q3
  have b4 := ne_b q4
  have b5 := ne_b q5
  have b6 := ne_b q6
  have b7 := ne_b q7
  unfold qPoints at b1
  unfold qWide at b2
  unfold qRadius at b3
  unfold qGap at b4
  unfold qMedians at b5
  unfold qSteps at b6
  unfold qSplits at b7
  clear q1 q2 q3 q4 q5 q6 q7 hH hE
  unfold tx at HC
  go_enter Tryz.func37, Tryz.ntmps37
  go_wp2_with fail
  refine (HC.out _ (Ext.refl _)).mono ?_
  rintro e w1 ⟨rfl, hx1⟩
  go_wp2_with fail
  go_ret
  exact ⟨rfl, hx1⟩
set_option maxRecDepth 100000 in
set_option maxHeartbeats 4000000 in
theorem asked_other (A : Option Addr) (cp : Nat) (D : List (List Int)) (T : List UInt8) (w : World) (hq : NotQ T) (hl : T.length ≤ 1048576) (hE : Env w) (hH : cutH 32 T = true) (hF : cutP 32 T ≠ askFar) (hB : cutP 32 T ≠ askBtw) :
    Calls Tryz.prog 37 #[.slice A D.length cp, .string ⟨T.toArray⟩] w (AskR w askWhat) := by
  have HC := Lib.hid (fun W (q : Ext w W) => cut_any 32 T W hl (hE.ext q).2.1)
  rw [hH] at HC
  obtain ⟨P, hP⟩ : ∃ P, cutP 32 T = P := ⟨_, rfl⟩
  rw [hP] at HC hF hB
  obtain ⟨q1, q2, q3, q4, q5, q6, q7⟩ := hq
  have b1 := ne_b q1
  have b2 := ne_b q2
  have b3 := ne_b q3
  have b4 := ne_b q4
  have b5 := ne_b q5
  have b6 := ne_b q6
  have b7 := ne_b q7
  unfold qPoints at b1
  unfold qWide at b2
  unfold qRadius at b3
  unfold qGap at b4
  unfold qMedians at b5
  unfold qSteps at b6
  unfold qSplits at b7
  have f1 := ne_b hF
  have f2 := ne_b hB
  unfold askFar at f1
  unfold askBtw at f2
  clear q1 q2 q3 q4 q5 q6 q7 hH hE hP hF hB
  unfold tx at HC
  go_enter Tryz.func37, Tryz.ntmps37
  go_wp2_with fail
  refine (HC.out _ (Ext.refl _)).mono ?_
  rintro e w1 ⟨rfl, hx1⟩
  go_wp2_with fail
  go_ret
  exact ⟨rfl, hx1⟩
set_option maxRecDepth 100000 in
set_option maxHeartbeats 8000000 in
theorem asked_far (A : Option Addr) (cp : Nat) (D : List (List Int)) (T : List UInt8) (w : World) (h : Mat w A cp D) (hs : spB D = true) (hq : NotQ T) (hl : T.length ≤ 1048576) (hE : Env w) (ht : Tab w) (hH : cutH 32 T = true) (hF : cutP 32 T = askFar) :
    Calls Tryz.prog 37 #[.slice A D.length cp, .string ⟨T.toArray⟩] w (AskR w (if Lib.contains (cutR 32 T) [32] = false then ansP D askFar (pairI D (cutR 32 T)) else askWhat)) := by
  have HC := Lib.hid (fun W (q : Ext w W) => cut_any 32 T W hl (hE.ext q).2.1)
  rw [hH, hF] at HC
  have hrl := cutR_le 32 T
  obtain ⟨R, hR⟩ : ∃ P, cutR 32 T = P := ⟨_, rfl⟩
  rw [hR] at HC hrl ⊢
  have HHA := Lib.hid (fun W (q : Ext w W) => has_any R W (by omega) (hE.ext q).2.1)
  have HRN := Lib.hid (fun W (q : Ext w W) => readNumbers_any R W (by omega) (hE.ext q))
  obtain ⟨⟨n1, n6⟩, hsq, hcells⟩ := farB_parts (spB_far hs)
  have hcm := h.2.1
  have hlc := h.1
  unfold maxLen at hcm
  obtain ⟨bk, o, rc, rb, ro, hA, hrow, -, hcell, -⟩ := h.square hsq
  obtain rfl := hA (by omega)
  have HROW := Lib.hid hrow
  have HCELL := Lib.hid hcell
  have HBD := Lib.hid (fun (i j : Nat) (hi : i < D.length) (hj : j < D.length) => And.intro (hcells i hi j hj).1 (hcells i hi j hj).2.1)
  have HIT := Lib.hid (fun (x : Int) W (q : Ext w W) (hx : 0 ≤ x ∧ x < 1000) => itoa_z x hx W (ht.ext q))
  have HBT := Lib.hid (fun (a b : Nat) (ha : a < D.length) (hb : b < D.length) W (q : Ext w W) => betweenOf_any _ cp D a b W (h.ext q) hs ha hb)
  obtain ⟨q1, q2, q3, q4, q5, q6, q7⟩ := hq
  have b1 := ne_b q1
  have b2 := ne_b q2
  have b3 := ne_b q3
  have b4 := ne_b q4
  have b5 := ne_b q5
  have b6 := ne_b q6
  have b7 := ne_b q7
  unfold qPoints at b1
  unfold qWide at b2
  unfold qRadius at b3
  unfold qGap at b4
  unfold qMedians at b5
  unfold qSteps at b6
  unfold qSplits at b7
  clear q1 q2 q3 q4 q5 q6 q7 hH hE hF hR h hs hsq hcells hrow hcell hA ht
  unfold tx askFar at HC
  obtain ⟨cb, hcb⟩ : ∃ c, Lib.contains R [32] = c := ⟨_, rfl⟩
  rw [hcb] at HHA ⊢
  clear hcb
  cases cb with
  | true =>
    rw [if_neg (by simp)]
    go_enter Tryz.func37, Tryz.ntmps37
    go_wp2_with fail
    refine (HC.out _ (Ext.refl _)).mono ?_
    rintro e w1 ⟨rfl, hx1⟩
    have HX1 := Lib.hid hx1
    clear hx1 b1 b2 b3 b4 b5 b6 b7
    go_wp2_with fail
    refine (HHA.out _ HX1.out).mono ?_
    rintro e w2 ⟨rfl, hw⟩
    rw [hw]
    clear hw w2
    go_wp2_with fail
    go_ret
    exact ⟨rfl, HX1.out⟩
  | false =>
    rw [if_pos rfl]
    go_enter Tryz.func37, Tryz.ntmps37
    go_wp2_with fail
    refine (HC.out _ (Ext.refl _)).mono ?_
    rintro e w1 ⟨rfl, hx1⟩
    have HX1 := Lib.hid hx1
    clear hx1 b1 b2 b3 b4 b5 b6 b7
    go_wp2_with fail
    refine (HHA.out _ HX1.out).mono ?_
    rintro e w2 ⟨rfl, hw⟩
    rw [hw]
    clear hw w2
    go_wp2_with fail
    refine (HRN.out _ HX1.out).mono ?_
    rintro e w2 ⟨hx2, hr⟩
    have HX2 := Lib.hid (HX1.out.trans hx2)
    clear hx2
    rcases hr with ⟨hn, rfl⟩ | ⟨xs, v, hn, hxl, rfl, hLf, -⟩
    · have HE : Hid (ansP D askFar (pairI D R) = askNone) := Lib.hid (by unfold pairI numP; rw [hn]; rfl)
      clear hn
      go_wp2_with fail
      go_ret
      exact ⟨by rw [HE.out]; rfl, HX2.out⟩
    · obtain ⟨A2, c2, rfl, hI⟩ := hLf.ints
      by_cases hTR : rowT xs = R
      · have hd : decide (rowT xs = R) = true := decide_eq_true hTR
        have HPI : Hid (pairI D R = pairX D (some xs)) := Lib.hid (by unfold pairI numP; rw [hn]; show pairX D (if rowT xs = R then some xs else none) = _; rw [if_pos hTR])
        have HRG := Lib.hid (nums_rng hn)
        rw [hd]
        clear hTR hd hn hLf
        by_cases h2 : xs.length = 2
        · obtain ⟨a, b, rfl⟩ := two_of h2
          have ha99 := HRG.out a List.mem_cons_self
          have hb99 := HRG.out b (List.mem_cons_of_mem _ List.mem_cons_self)
          obtain ⟨-, hcc, bI, oI, hA2, hcI⟩ := hI
          unfold maxLen at hcc
          obtain rfl := hA2 (by simp)
          have k0 : w2.cell? ⟨bI, oI, none⟩ = some (.int .i64 a) := hcI 0 (by simp)
          have k1 : w2.cell? ⟨bI, oI + 1, none⟩ = some (.int .i64 b) := hcI 1 (by simp)
          have HPX : Hid (pairI D R = if a < D.length ∧ b < D.length then some (a.toNat, b.toNat) else none) := Lib.hid (by
            rw [HPI.out]
            show (if ([a, b] : List Int).length = 2 ∧ a < D.length ∧ b < D.length then _ else none) = _
            by_cases q : a < D.length ∧ b < D.length
            · rw [if_pos q, if_pos ⟨rfl, q⟩]; rfl
            · rw [if_neg q, if_neg (fun z => q z.2)])
          clear HPI HRG hcI hA2 h2 hxl
          obtain ⟨ha0, ha1⟩ := ha99
          obtain ⟨hb0, hb1⟩ := hb99
          by_cases qa : a < D.length
          · have qa' : ¬ (D.length : Int) ≤ a := by omega
            by_cases qb : b < D.length
            · have qb' : ¬ (D.length : Int) ≤ b := by omega
              have HE : Hid (ansP D askFar (pairI D R) = ansP D askFar (some (a.toNat, b.toNat))) := Lib.hid (by rw [HPX.out, if_pos ⟨qa, qb⟩])
              clear HPX
              obtain ⟨x, rfl⟩ : ∃ n : Nat, a = n := ⟨a.toNat, by omega⟩
              obtain ⟨y, rfl⟩ : ∃ n : Nat, b = n := ⟨b.toNat, by omega⟩
              rw [Int.toNat_natCast, Int.toNat_natCast] at HE
              have hxD : x < D.length := by omega
              have hyD : y < D.length := by omega
              have HK := Lib.hid (fun W (q : Ext w2 W) => And.intro (q.cell k0) (q.cell k1))
              have r1 := HX2.out.cell (HROW.out x hxD)
              have d1 := HX2.out.cell (HCELL.out x hxD y hyD)
              have HB := Lib.hid (HBD.out x y hxD hyD)
              have HBT2 := Lib.hid (fun W (q : Ext w W) => HBT.out x y hxD hyD W q)
              clear HBT HROW HCELL HBD HRN HHA HC
              go_wp2_with fail
              go_region_law (go_simp; go_at_call 63; refine (HIT.out _ _ (by repeat (first | exact HX2.out | apply Ext.alloc' | apply Ext.drew')) (by have := HB.out; omega)).mono ?_; rintro e w5 ⟨rfl, hx5⟩; unfold tx)
              all_goals
                go_wp2_with fail
                go_ret
                exact ⟨by rw [HE.out]; rfl, Ext.trans (by repeat (first | exact HX2.out | apply Ext.alloc' | apply Ext.drew')) hx5⟩
            · have qb' : (D.length : Int) ≤ b := by omega
              have HE : Hid (ansP D askFar (pairI D R) = askNone) := Lib.hid (by rw [HPX.out, if_neg (fun z => qb z.2)]; rfl)
              clear HPX
              go_wp2_with fail
              go_ret
              exact ⟨by rw [HE.out]; rfl, HX2.out⟩
          · have qa' : (D.length : Int) ≤ a := by omega
            have HE : Hid (ansP D askFar (pairI D R) = askNone) := Lib.hid (by rw [HPX.out, if_neg (fun z => qa z.1)]; rfl)
            clear HPX
            go_wp2_with fail
            go_ret
            exact ⟨by rw [HE.out]; rfl, HX2.out⟩
        · have h2' : ((xs.length : Int) == 2) = false := beq_eq_false_iff_ne.2 (by omega)
          have h2n : ((xs.length : Int) != 2) = true := by rw [bne, h2']; rfl
          have h2i : ¬ (xs.length : Int) = 2 := by omega
          have HE : Hid (ansP D askFar (pairI D R) = askNone) := Lib.hid (by
            rw [HPI.out]
            show ansP D askFar (if xs.length = 2 ∧ _ then _ else none) = _
            rw [if_neg (fun z => h2 z.1)]; rfl)
          clear h2 HPI HRG hI
          go_wp2_with fail
          go_ret
          exact ⟨by rw [HE.out]; rfl, HX2.out⟩
      · have hd : decide (rowT xs = R) = false := decide_eq_false hTR
        have HE : Hid (ansP D askFar (pairI D R) = askNone) := Lib.hid (by unfold pairI numP; rw [hn]; show ansP D askFar (pairX D (if rowT xs = R then some xs else none)) = _; rw [if_neg hTR]; rfl)
        rw [hd]
        clear hTR hd hn hLf hI
        go_wp2_with fail
        go_ret
        exact ⟨by rw [HE.out]; rfl, HX2.out⟩
set_option maxRecDepth 100000 in
set_option maxHeartbeats 8000000 in
theorem asked_btw (A : Option Addr) (cp : Nat) (D : List (List Int)) (T : List UInt8) (w : World) (h : Mat w A cp D) (hs : spB D = true) (hq : NotQ T) (hl : T.length ≤ 1048576) (hE : Env w) (ht : Tab w) (hH : cutH 32 T = true) (hF : cutP 32 T = askBtw) :
    Calls Tryz.prog 37 #[.slice A D.length cp, .string ⟨T.toArray⟩] w (AskR w (if Lib.contains (cutR 32 T) [32] = false then ansP D askBtw (pairI D (cutR 32 T)) else askWhat)) := by
  have HC := Lib.hid (fun W (q : Ext w W) => cut_any 32 T W hl (hE.ext q).2.1)
  rw [hH, hF] at HC
  have hrl := cutR_le 32 T
  obtain ⟨R, hR⟩ : ∃ P, cutR 32 T = P := ⟨_, rfl⟩
  rw [hR] at HC hrl ⊢
  have HHA := Lib.hid (fun W (q : Ext w W) => has_any R W (by omega) (hE.ext q).2.1)
  have HRN := Lib.hid (fun W (q : Ext w W) => readNumbers_any R W (by omega) (hE.ext q))
  obtain ⟨⟨n1, n6⟩, hsq, hcells⟩ := farB_parts (spB_far hs)
  have hcm := h.2.1
  have hlc := h.1
  unfold maxLen at hcm
  obtain ⟨bk, o, rc, rb, ro, hA, hrow, -, hcell, -⟩ := h.square hsq
  obtain rfl := hA (by omega)
  have HROW := Lib.hid hrow
  have HCELL := Lib.hid hcell
  have HBD := Lib.hid (fun (i j : Nat) (hi : i < D.length) (hj : j < D.length) => And.intro (hcells i hi j hj).1 (hcells i hi j hj).2.1)
  have HIT := Lib.hid (fun (x : Int) W (q : Ext w W) (hx : 0 ≤ x ∧ x < 1000) => itoa_z x hx W (ht.ext q))
  have HBT := Lib.hid (fun (a b : Nat) (ha : a < D.length) (hb : b < D.length) W (q : Ext w W) => betweenOf_any _ cp D a b W (h.ext q) hs ha hb)
  obtain ⟨q1, q2, q3, q4, q5, q6, q7⟩ := hq
  have b1 := ne_b q1
  have b2 := ne_b q2
  have b3 := ne_b q3
  have b4 := ne_b q4
  have b5 := ne_b q5
  have b6 := ne_b q6
  have b7 := ne_b q7
  unfold qPoints at b1
  unfold qWide at b2
  unfold qRadius at b3
  unfold qGap at b4
  unfold qMedians at b5
  unfold qSteps at b6
  unfold qSplits at b7
  clear q1 q2 q3 q4 q5 q6 q7 hH hE hF hR h hs hsq hcells hrow hcell hA ht
  unfold tx askBtw at HC
  obtain ⟨cb, hcb⟩ : ∃ c, Lib.contains R [32] = c := ⟨_, rfl⟩
  rw [hcb] at HHA ⊢
  clear hcb
  cases cb with
  | true =>
    rw [if_neg (by simp)]
    go_enter Tryz.func37, Tryz.ntmps37
    go_wp2_with fail
    refine (HC.out _ (Ext.refl _)).mono ?_
    rintro e w1 ⟨rfl, hx1⟩
    have HX1 := Lib.hid hx1
    clear hx1 b1 b2 b3 b4 b5 b6 b7
    go_wp2_with fail
    refine (HHA.out _ HX1.out).mono ?_
    rintro e w2 ⟨rfl, hw⟩
    rw [hw]
    clear hw w2
    go_wp2_with fail
    go_ret
    exact ⟨rfl, HX1.out⟩
  | false =>
    rw [if_pos rfl]
    go_enter Tryz.func37, Tryz.ntmps37
    go_wp2_with fail
    refine (HC.out _ (Ext.refl _)).mono ?_
    rintro e w1 ⟨rfl, hx1⟩
    have HX1 := Lib.hid hx1
    clear hx1 b1 b2 b3 b4 b5 b6 b7
    go_wp2_with fail
    refine (HHA.out _ HX1.out).mono ?_
    rintro e w2 ⟨rfl, hw⟩
    rw [hw]
    clear hw w2
    go_wp2_with fail
    refine (HRN.out _ HX1.out).mono ?_
    rintro e w2 ⟨hx2, hr⟩
    have HX2 := Lib.hid (HX1.out.trans hx2)
    clear hx2
    rcases hr with ⟨hn, rfl⟩ | ⟨xs, v, hn, hxl, rfl, hLf, -⟩
    · have HE : Hid (ansP D askBtw (pairI D R) = askNone) := Lib.hid (by unfold pairI numP; rw [hn]; rfl)
      clear hn
      go_wp2_with fail
      go_ret
      exact ⟨by rw [HE.out]; rfl, HX2.out⟩
    · obtain ⟨A2, c2, rfl, hI⟩ := hLf.ints
      by_cases hTR : rowT xs = R
      · have hd : decide (rowT xs = R) = true := decide_eq_true hTR
        have HPI : Hid (pairI D R = pairX D (some xs)) := Lib.hid (by unfold pairI numP; rw [hn]; show pairX D (if rowT xs = R then some xs else none) = _; rw [if_pos hTR])
        have HRG := Lib.hid (nums_rng hn)
        rw [hd]
        clear hTR hd hn hLf
        by_cases h2 : xs.length = 2
        · obtain ⟨a, b, rfl⟩ := two_of h2
          have ha99 := HRG.out a List.mem_cons_self
          have hb99 := HRG.out b (List.mem_cons_of_mem _ List.mem_cons_self)
          obtain ⟨-, hcc, bI, oI, hA2, hcI⟩ := hI
          unfold maxLen at hcc
          obtain rfl := hA2 (by simp)
          have k0 : w2.cell? ⟨bI, oI, none⟩ = some (.int .i64 a) := hcI 0 (by simp)
          have k1 : w2.cell? ⟨bI, oI + 1, none⟩ = some (.int .i64 b) := hcI 1 (by simp)
          have HPX : Hid (pairI D R = if a < D.length ∧ b < D.length then some (a.toNat, b.toNat) else none) := Lib.hid (by
            rw [HPI.out]
            show (if ([a, b] : List Int).length = 2 ∧ a < D.length ∧ b < D.length then _ else none) = _
            by_cases q : a < D.length ∧ b < D.length
            · rw [if_pos q, if_pos ⟨rfl, q⟩]; rfl
            · rw [if_neg q, if_neg (fun z => q z.2)])
          clear HPI HRG hcI hA2 h2 hxl
          obtain ⟨ha0, ha1⟩ := ha99
          obtain ⟨hb0, hb1⟩ := hb99
          by_cases qa : a < D.length
          · have qa' : ¬ (D.length : Int) ≤ a := by omega
            by_cases qb : b < D.length
            · have qb' : ¬ (D.length : Int) ≤ b := by omega
              have HE : Hid (ansP D askBtw (pairI D R) = ansP D askBtw (some (a.toNat, b.toNat))) := Lib.hid (by rw [HPX.out, if_pos ⟨qa, qb⟩])
              clear HPX
              obtain ⟨x, rfl⟩ : ∃ n : Nat, a = n := ⟨a.toNat, by omega⟩
              obtain ⟨y, rfl⟩ : ∃ n : Nat, b = n := ⟨b.toNat, by omega⟩
              rw [Int.toNat_natCast, Int.toNat_natCast] at HE
              have hxD : x < D.length := by omega
              have hyD : y < D.length := by omega
              have HK := Lib.hid (fun W (q : Ext w2 W) => And.intro (q.cell k0) (q.cell k1))
              have r1 := HX2.out.cell (HROW.out x hxD)
              have d1 := HX2.out.cell (HCELL.out x hxD y hyD)
              have HB := Lib.hid (HBD.out x y hxD hyD)
              have HBT2 := Lib.hid (fun W (q : Ext w W) => HBT.out x y hxD hyD W q)
              clear HBT HROW HCELL HBD HRN HHA HC
              have hsl := selN_len (btwB D x y) D.length
              have hsx := selN_ix (btwB D x y) D.length
              have HV : Hid (ansP D askBtw (some (x, y)) = rowT (selN (btwB D x y) D.length)) := Lib.hid (by show (if askBtw = askFar then dg (at2 D x y) else rowT (selN (btwB D x y) D.length)) = _; exact if_neg (by decide))
              obtain ⟨zs, hzs⟩ : ∃ z, selN (btwB D x y) D.length = z := ⟨_, rfl⟩
              rw [hzs] at HBT2 HV hsl hsx
              have HN := Lib.hid (fun A c W (q : Ints W A c zs) => numbersText_any A c zs W q (fun i hi => by have := hsx i hi; omega) (by omega))
              obtain ⟨Z, hZ⟩ : ∃ Z, rowT zs = Z := ⟨_, rfl⟩
              rw [hZ] at HV HN
              clear hsl hsx hzs hZ
              go_wp2_with fail
              go_region_law (first | (go_simp; go_at_call 66; (fail_if_success (have q := hx6)); refine (HN.out _ _ _ HI5.out).mono ?_; rintro e w6 ⟨rfl, hx6⟩; unfold tx) | (go_simp; go_at_call 74; (fail_if_success (have q := hx5)); refine (HBT2.out _ (by repeat (first | exact HX2.out | apply Ext.alloc' | apply Ext.drew'))).mono ?_; rintro e w5 ⟨v5, rfl, hL5, -, hx5⟩; obtain ⟨A5, c5, rfl, hI5⟩ := hL5.ints; have HI5 := Lib.hid hI5; clear hI5 hL5))
              all_goals
                go_wp2_with fail
                go_ret
                exact ⟨by rw [HE.out, HV.out]; rfl, (Ext.trans (by repeat (first | exact HX2.out | apply Ext.alloc' | apply Ext.drew')) hx5).trans hx6⟩
            · have qb' : (D.length : Int) ≤ b := by omega
              have HE : Hid (ansP D askBtw (pairI D R) = askNone) := Lib.hid (by rw [HPX.out, if_neg (fun z => qb z.2)]; rfl)
              clear HPX
              go_wp2_with fail
              go_ret
              exact ⟨by rw [HE.out]; rfl, HX2.out⟩
          · have qa' : (D.length : Int) ≤ a := by omega
            have HE : Hid (ansP D askBtw (pairI D R) = askNone) := Lib.hid (by rw [HPX.out, if_neg (fun z => qa z.1)]; rfl)
            clear HPX
            go_wp2_with fail
            go_ret
            exact ⟨by rw [HE.out]; rfl, HX2.out⟩
        · have h2' : ((xs.length : Int) == 2) = false := beq_eq_false_iff_ne.2 (by omega)
          have h2n : ((xs.length : Int) != 2) = true := by rw [bne, h2']; rfl
          have h2i : ¬ (xs.length : Int) = 2 := by omega
          have HE : Hid (ansP D askBtw (pairI D R) = askNone) := Lib.hid (by
            rw [HPI.out]
            show ansP D askBtw (if xs.length = 2 ∧ _ then _ else none) = _
            rw [if_neg (fun z => h2 z.1)]; rfl)
          clear h2 HPI HRG hI
          go_wp2_with fail
          go_ret
          exact ⟨by rw [HE.out]; rfl, HX2.out⟩
      · have hd : decide (rowT xs = R) = false := decide_eq_false hTR
        have HE : Hid (ansP D askBtw (pairI D R) = askNone) := Lib.hid (by unfold pairI numP; rw [hn]; show ansP D askBtw (pairX D (if rowT xs = R then some xs else none)) = _; rw [if_neg hTR]; rfl)
        rw [hd]
        clear hTR hd hn hLf hI
        go_wp2_with fail
        go_ret
        exact ⟨by rw [HE.out]; rfl, HX2.out⟩
set_option maxHeartbeats 1000000 in
/-- THE ANSWER TO A QUESTION -/
theorem asked_any (A : Option Addr) (cp : Nat) (D : List (List Int)) (T : List UInt8) (w : World) (h : Mat w A cp D) (hs : spB D = true) (hl : T.length ≤ 1048576) (hE : Env w) (ht : Tab w) :
    Calls Tryz.prog 37 #[.slice A D.length cp, .string ⟨T.toArray⟩] w (AskR w (askV D T)) := by
  unfold askV
  by_cases q1 : T = qPoints
  · subst q1; rw [if_pos rfl]; exact asked_points A cp D w hs ht
  rw [if_neg q1]
  by_cases q2 : T = qWide
  · subst q2; rw [if_pos rfl]; exact asked_wide A cp D w h hs ht
  rw [if_neg q2]
  by_cases q3 : T = qRadius
  · subst q3; rw [if_pos rfl]; exact asked_radius A cp D w h hs
  rw [if_neg q3]
  by_cases q4 : T = qGap
  · subst q4; rw [if_pos rfl]; exact asked_gap A cp D w h hs ht
  rw [if_neg q4]
  by_cases q5 : T = qMedians
  · subst q5; rw [if_pos rfl]; exact asked_medians A cp D w h hs
  rw [if_neg q5]
  by_cases q6 : T = qSteps
  · subst q6; rw [if_pos rfl]; exact asked_steps A cp D w h hs
  rw [if_neg q6]
  by_cases q7 : T = qSplits
  · subst q7; rw [if_pos rfl]; exact asked_splits A cp D w h hs ht
  rw [if_neg q7]
  have hq : NotQ T := ⟨q1, q2, q3, q4, q5, q6, q7⟩
  unfold twoI
  cases hH : cutH 32 T with
  | false =>
    rw [if_neg (fun z => absurd z.1 (by simp))]
    exact asked_no A cp D T w hq hl hE hH
  | true =>
    by_cases f1 : cutP 32 T = askFar
    · have := asked_far A cp D T w h hs hq hl hE ht hH f1
      rw [f1]
      by_cases hc : Lib.contains (cutR 32 T) [32] = false
      · rw [if_pos hc] at this
        rw [if_pos ⟨rfl, Or.inl rfl, hc⟩]
        exact this
      · rw [if_neg hc] at this
        rw [if_neg (fun z => hc z.2.2)]
        exact this
    · by_cases f2 : cutP 32 T = askBtw
      · have := asked_btw A cp D T w h hs hq hl hE ht hH f2
        rw [f2]
        by_cases hc : Lib.contains (cutR 32 T) [32] = false
        · rw [if_pos hc] at this
          rw [if_pos ⟨rfl, Or.inr rfl, hc⟩]
          exact this
        · rw [if_neg hc] at this
          rw [if_neg (fun z => hc z.2.2)]
          exact this
      · rw [if_neg (fun z => z.2.1.elim f1 f2)]
        exact asked_other A cp D T w hq hl hE hH f1 f2
end Go.Proofs.YtnalcgcdohlfiaaGreatDoor
