/- What is proved: both ways to read a deed answer alike (rdI and rdS). No condition. -/
import Derived.Test.YtcejdgnfmcgopaaGreatDoorRj
namespace Go.Proofs.YtcejdgnfmcgopaaGreatDoor
open Go.RowKit
theorem pieces_none {sep : UInt8} : ∀ {p : List UInt8}, (∀ b ∈ p, b ≠ sep) → pieces sep p = [p]
  | [], _ => rfl
  | c :: r, h => by
    unfold pieces
    rw [if_neg (h c (List.mem_cons_self)), pieces_none (fun b hb => h b (List.mem_cons_of_mem _ hb))]
    rfl
theorem pieces_app {sep : UInt8} : ∀ {p r : List UInt8}, (∀ b ∈ p, b ≠ sep) → pieces sep (p ++ sep :: r) = p :: pieces sep r
  | [], r, _ => by
    show pieces sep (sep :: r) = _
    simp [pieces]
  | c :: p, r, h => by
    show (if c = sep then [] :: pieces sep (p ++ sep :: r) else addHead [c] (pieces sep (p ++ sep :: r))) = _
    rw [if_neg (h c (List.mem_cons_self)), pieces_app (fun b hb => h b (List.mem_cons_of_mem _ hb))]
    rfl
/-- the digits of a number -/
def dg (x : Int) : List UInt8 := Lib.decDigits x.toNat
theorem rowT_one (x : Int) : rowT [x] = dg x := by unfold rowT dg; exact Lib.join_one _ _
theorem rowT_two (x y : Int) (r : List Int) : rowT (x :: y :: r) = dg x ++ 44 :: rowT (y :: r) := by
  unfold rowT dg
  rw [List.map_cons, List.map_cons, Lib.join_cons, Lib.join_cons]
  simp [Lib.joinTail]
theorem dg_cases {x : Int} (h0 : 0 ≤ x) (h1 : x ≤ 99) : (∃ a, a < 10 ∧ x = (a : Nat) ∧ dg x = [UInt8.ofNat (48 + a)]) ∨ (∃ a b, 1 ≤ a ∧ a < 10 ∧ b < 10 ∧ x = ((10 * a + b : Nat) : Int) ∧ dg x = [UInt8.ofNat (48 + a), UInt8.ofNat (48 + b)]) := by
  by_cases q : x < 10
  · exact Or.inl ⟨x.toNat, by omega, by omega, by unfold dg; exact dig_small (by omega)⟩
  · exact Or.inr ⟨x.toNat / 10, x.toNat % 10, by omega, by omega, by omega, by omega, by unfold dg; exact dig_two (by omega) (by omega)⟩
theorem dec1 : ∀ a, a < 10 → aN [UInt8.ofNat (48 + a)] = some ((a : Nat) : Int) ∧ dgt [UInt8.ofNat (48 + a)] = (a : Nat) ∧ UInt8.ofNat (48 + a) ≠ 32 ∧ UInt8.ofNat (48 + a) ≠ 44 := by decide +kernel
theorem dec2 : ∀ a, a < 10 → 1 ≤ a → ∀ b, b < 10 → aN [UInt8.ofNat (48 + a), UInt8.ofNat (48 + b)] = some ((10 * a + b : Nat) : Int) ∧ dgt [UInt8.ofNat (48 + a), UInt8.ofNat (48 + b)] = ((10 * a + b : Nat) : Int) := by decide +kernel
theorem dg_all {x : Int} (h0 : 0 ≤ x) (h1 : x ≤ 99) : aN (dg x) = some x ∧ dgt (dg x) = x ∧ (∀ b ∈ dg x, b ≠ 32) ∧ ∀ b ∈ dg x, b ≠ 44 := by
  rcases dg_cases h0 h1 with ⟨a, ha, rfl, hd⟩ | ⟨a, b, ha1, ha, hb, rfl, hd⟩
  · rw [hd]
    obtain ⟨e1, e2, e3, e4⟩ := dec1 a ha
    exact ⟨e1, e2, fun b hb => by rw [List.mem_singleton.1 hb]; exact e3, fun b hb => by rw [List.mem_singleton.1 hb]; exact e4⟩
  · rw [hd]
    obtain ⟨e1, e2⟩ := dec2 a ha ha1 b hb
    obtain ⟨-, -, e3, e4⟩ := dec1 a ha
    obtain ⟨-, -, e5, e6⟩ := dec1 b hb
    exact ⟨e1, e2, fun c hc => by
      rcases List.mem_cons.1 hc with e | e
      · rw [e]; exact e3
      · rw [List.mem_singleton.1 e]; exact e5, fun c hc => by
      rcases List.mem_cons.1 hc with e | e
      · rw [e]; exact e4
      · rw [List.mem_singleton.1 e]; exact e6⟩
/-- numbers 0..99, as a property of the members -/
theorem allN_mem {xs : List Int} (h : allN xs = true) : ∀ x ∈ xs, 0 ≤ x ∧ x ≤ 99 := by
  intro x hx
  obtain ⟨i, hi, rfl⟩ := List.getElem_of_mem hx
  have := allN_cons.1 h i hi
  rw [ix_of hi] at this
  exact this
theorem row_plain : ∀ {xs : List Int}, (∀ x ∈ xs, 0 ≤ x ∧ x ≤ 99) → xs ≠ [] → pieces 44 (rowT xs) = xs.map dg ∧ ∀ b ∈ rowT xs, b ≠ 32
  | [], _, h => absurd rfl h
  | [x], h, _ => by
    obtain ⟨h0, h1⟩ := h x (List.mem_cons_self)
    obtain ⟨e1, e2, e3, e4⟩ := dg_all h0 h1
    rw [rowT_one]
    exact ⟨pieces_none e4, e3⟩
  | x :: y :: r, h, _ => by
    obtain ⟨h0, h1⟩ := h x (List.mem_cons_self)
    obtain ⟨e1, e2, e3, e4⟩ := dg_all h0 h1
    obtain ⟨f1, f2⟩ := row_plain (xs := y :: r) (fun z hz => h z (List.mem_cons_of_mem _ hz)) (List.cons_ne_nil _ _)
    rw [rowT_two]
    refine ⟨by rw [pieces_app e4, f1]; rfl, fun b hb => ?_⟩
    rcases List.mem_append.1 hb with q | q
    · exact e3 b q
    · rcases List.mem_cons.1 q with e | e
      · rw [e]; decide
      · exact f2 b e
theorem name_plain {k : Int} (h : 0 ≤ k ∧ k ≤ 4) : (∀ b ∈ nameT k, b ≠ 32) ∧ nameT k ≠ [] ∧ kindI (nameT k) = k := by
  have : k = 0 ∨ k = 1 ∨ k = 2 ∨ k = 3 ∨ k = 4 := by omega
  rcases this with rfl | rfl | rfl | rfl | rfl <;> decide +kernel
theorem name_inj {k j : Int} (h : 0 ≤ k ∧ k ≤ 4) (hj : 0 ≤ j ∧ j ≤ 4) (e : nameT k = nameT j) : k = j := by
  rw [← (name_plain h).2.2, ← (name_plain hj).2.2, e]
/-- what a text of a deed tells -/
theorem dtx_parts {k : Int} {xs : List Int} {L : List UInt8} (h : dtx k xs = L) (hL : L ≠ []) : dtB k xs = true ∧ (0 ≤ k ∧ k ≤ 4) ∧ (∀ x ∈ xs, 0 ≤ x ∧ x ≤ 99) ∧ ((xs = [] ∧ L = nameT k) ∨ (xs ≠ [] ∧ L = nameT k ++ 32 :: rowT xs)) := by
  by_cases hb : dtB k xs = true
  · have hb2 := hb
    unfold dtB at hb2
    rw [Bool.and_eq_true] at hb2
    have hk : 0 ≤ k ∧ k ≤ 4 := by
      have h2 := hb2.2
      simp only [Bool.or_eq_true, Bool.and_eq_true, decide_eq_true_eq] at h2
      omega
    refine ⟨hb, hk, allN_mem hb2.1, ?_⟩
    unfold dtx at h
    rw [if_pos hb] at h
    by_cases h0 : xs.length = 0
    · rw [if_pos h0] at h
      exact Or.inl ⟨List.eq_nil_of_length_eq_zero h0, h.symm⟩
    · rw [if_neg h0] at h
      exact Or.inr ⟨fun q => h0 (by rw [q]; rfl), by rw [← h]; simp⟩
  · unfold dtx at h
    rw [if_neg hb] at h
    exact absurd h.symm hL
theorem dtx_inj {k j : Int} {xs : List Int} {L : List UInt8} (h : dtx k xs = L) (h' : dtx j xs = L) (hL : L ≠ []) : k = j := by
  obtain ⟨-, hk, -, h1⟩ := dtx_parts h hL
  obtain ⟨-, hj, -, h2⟩ := dtx_parts h' hL
  rcases h1 with ⟨e, h1⟩ | ⟨e, h1⟩ <;> rcases h2 with ⟨e', h2⟩ | ⟨e', h2⟩
  · exact name_inj hk hj (h1.symm.trans h2)
  · exact absurd e e'
  · exact absurd e' e
  · exact name_inj hk hj (List.append_cancel_right (h1.symm.trans h2))
theorem rlist_good {k : Int} {xs : List Int} {L : List UInt8} (h : dtx k xs = L) (hL : L ≠ []) : rlist L = xs := by
  obtain ⟨-, hk, hx, h1⟩ := dtx_parts h hL
  obtain ⟨n1, n2, -⟩ := name_plain hk
  unfold rlist
  rcases h1 with ⟨rfl, rfl⟩ | ⟨hne, rfl⟩
  · rw [pieces_none n1]; rfl
  · obtain ⟨r1, r2⟩ := row_plain hx hne
    rw [pieces_app n1, pieces_none r2]
    show (pieces 44 (rowT xs)).map dgt = xs
    rw [r1, List.map_map]
    conv => rhs; rw [← List.map_id xs]
    apply List.map_congr_left
    intro x hxm
    exact (dg_all (hx x hxm).1 (hx x hxm).2).2.1
theorem rfirst_sound {L : List UInt8} {xs : List Int} {p : Int × List Int} : ∀ g k, rfirst L xs g k = some p → L ≠ [] ∧ dtx p.1 p.2 = L
  | 0, _, h => by simp [rfirst] at h
  | g + 1, k, h => by
    unfold rfirst at h
    split at h
    · rename_i q
      injection h with h
      rw [← h]; exact q
    · exact rfirst_sound g (k + 1) h
theorem rfirst_complete {L : List UInt8} {xs : List Int} {k : Int} (h : dtx k xs = L) (hL : L ≠ []) : ∀ g j : Nat, j + g = 5 → (j : Int) ≤ k → rfirst L xs g j = some (k, xs)
  | 0, j, hj, hjk => by
    obtain ⟨-, hk, -, -⟩ := dtx_parts h hL
    omega
  | g + 1, j, hj, hjk => by
    unfold rfirst
    by_cases q : dtx j xs = L
    · rw [if_pos ⟨hL, q⟩, dtx_inj q h hL]
    · rw [if_neg (fun z => q z.2)]
      refine rfirst_complete h hL g (j + 1) (by omega) ?_
      by_cases e : (j : Int) = k
      · rw [← e] at h; exact absurd h q
      · omega
theorem rdS_sound {L : List UInt8} {p : Int × List Int} (h : rdS L = some p) : L ≠ [] ∧ dtx p.1 p.2 = L := rfirst_sound _ _ h
theorem rdS_complete {L : List UInt8} {k : Int} {xs : List Int} (h : dtx k xs = L) (hL : L ≠ []) : rdS L = some (k, xs) := by
  unfold rdS
  rw [rlist_good h hL]
  obtain ⟨-, hk, -, -⟩ := dtx_parts h hL
  exact rfirst_complete h hL 5 0 rfl (by omega)
theorem index_miss {c : UInt8} : ∀ {p : List UInt8}, (∀ b ∈ p, b ≠ c) → Lib.index p [c] = -1
  | [], _ => rfl
  | a :: p, h => by
    have ih := index_miss (p := p) (fun b hb => h b (List.mem_cons_of_mem _ hb))
    have ha : (c == a) = false := beq_eq_false_iff_ne.2 (fun q => h a (List.mem_cons_self) q.symm)
    simp [Lib.index, ih, ha, List.isPrefixOf]
theorem index_hit {c : UInt8} {r : List UInt8} : ∀ {p : List UInt8}, (∀ b ∈ p, b ≠ c) → Lib.index (p ++ c :: r) [c] = (p.length : Int)
  | [], _ => by simp [Lib.index, List.isPrefixOf]
  | a :: p, h => by
    have ih := index_hit (p := p) (r := r) (fun b hb => h b (List.mem_cons_of_mem _ hb))
    have ha : (c == a) = false := beq_eq_false_iff_ne.2 (fun q => h a (List.mem_cons_self) q.symm)
    show Lib.index (a :: (p ++ c :: r)) [c] = _
    have h1 : ¬ (p.length : Int) = -1 := by omega
    simp [Lib.index, ih, ha, List.isPrefixOf, h1]
theorem cut_miss {c : UInt8} {p : List UInt8} (h : ∀ b ∈ p, b ≠ c) : cutP c p = p ∧ cutR c p = [] ∧ cutH c p = false := by
  unfold cutP cutR cutH Lib.cut
  rw [index_miss h, if_neg (by omega)]
  exact ⟨rfl, rfl, rfl⟩
theorem cut_hit {c : UInt8} {p r : List UInt8} (h : ∀ b ∈ p, b ≠ c) : cutP c (p ++ c :: r) = p ∧ cutR c (p ++ c :: r) = r ∧ cutH c (p ++ c :: r) = true := by
  unfold cutP cutR cutH Lib.cut
  rw [index_hit h, if_pos (by omega)]
  refine ⟨by simp, ?_, rfl⟩
  show (p ++ c :: r).drop (p.length + 1) = r
  rw [show p ++ c :: r = (p ++ [c]) ++ r by simp, List.drop_append_of_le_length (by simp), List.drop_of_length_le (by simp)]
  rfl
theorem ext_app (p r : List UInt8) (c : UInt8) : (⟨(p ++ c :: r).toArray⟩ : ByteArray).extract (p.length + 1) (⟨(p ++ c :: r).toArray⟩ : ByteArray).size = ⟨r.toArray⟩ := by
  rw [tx_size, ByteArray.extract_mk]
  congr 2
  rw [show p ++ c :: r = (p ++ [c]) ++ r by simp, List.drop_append_of_le_length (by simp), List.drop_of_length_le (by simp)]
  simp
  exact List.take_of_length_le (by omega)
theorem ext_zero (p r : List UInt8) : (⟨(p ++ r).toArray⟩ : ByteArray).extract 0 (p.length + 0) = ⟨p.toArray⟩ := by
  rw [ByteArray.extract_mk]
  congr 2
  simp
theorem spl_none {p : List UInt8} (h : ∀ b ∈ p, b ≠ 44) : spl p = [p] := by
  have hi : Lib.indexB (⟨p.toArray⟩ : ByteArray) ⟨#[44]⟩ = -1 := index_miss h
  unfold spl
  rw [Lib.countB_miss _ _ hi, Lib.splitB_zero]
  rfl
theorem spl_app {p r : List UInt8} (h : ∀ b ∈ p, b ≠ 44) : spl (p ++ 44 :: r) = p :: spl r := by
  have hi : Lib.indexB (⟨(p ++ 44 :: r).toArray⟩ : ByteArray) ⟨#[44]⟩ = (p.length : Nat) := index_hit h
  unfold spl
  rw [Lib.countB_hit _ _ _ (by decide) hi]
  have h1 : (⟨#[44]⟩ : ByteArray).size = 1 := rfl
  rw [h1, ext_app, Nat.add_comm 1, Lib.splitB_hit _ _ _ _ _ hi, h1, ext_app, ext_zero]
  rfl
theorem spl_row : ∀ {xs : List Int}, (∀ x ∈ xs, 0 ≤ x ∧ x ≤ 99) → xs ≠ [] → spl (rowT xs) = xs.map dg
  | [], _, h => absurd rfl h
  | [x], h, _ => by
    obtain ⟨h0, h1⟩ := h x (List.mem_cons_self)
    rw [rowT_one, spl_none (dg_all h0 h1).2.2.2]
    rfl
  | x :: y :: r, h, _ => by
    obtain ⟨h0, h1⟩ := h x (List.mem_cons_self)
    rw [rowT_two, spl_app (dg_all h0 h1).2.2.2, spl_row (xs := y :: r) (fun z hz => h z (List.mem_cons_of_mem _ hz)) (List.cons_ne_nil _ _)]
    rfl
theorem nums_dg : ∀ {xs : List Int}, (∀ x ∈ xs, 0 ≤ x ∧ x ≤ 99) → nums (xs.map dg) = some xs
  | [], _ => rfl
  | x :: r, h => by
    obtain ⟨h0, h1⟩ := h x (List.mem_cons_self)
    have ih := nums_dg (xs := r) (fun z hz => h z (List.mem_cons_of_mem _ hz))
    show nums (dg x :: r.map dg) = _
    simp only [nums]
    rw [ih, (dg_all h0 h1).1]
theorem cand_good {k : Int} {xs : List Int} {L : List UInt8} (h : dtx k xs = L) (hL : L ≠ []) : cand L = some xs ∧ kindI (cutP 32 L) = k := by
  obtain ⟨-, hk, hx, h1⟩ := dtx_parts h hL
  obtain ⟨n1, n2, n3⟩ := name_plain hk
  rcases h1 with ⟨rfl, rfl⟩ | ⟨hne, rfl⟩
  · obtain ⟨c1, c2, c3⟩ := cut_miss n1
    exact ⟨by unfold cand; rw [c3]; simp, by rw [c1]; exact n3⟩
  · obtain ⟨c1, c2, c3⟩ := cut_hit (r := rowT xs) n1
    refine ⟨?_, by rw [c1]; exact n3⟩
    unfold cand
    rw [c3, if_pos rfl, c2, spl_row hx hne, nums_dg hx]
    simp only [if_true]
theorem rdI_sound {L : List UInt8} {p : Int × List Int} (h : rdI L = some p) : L ≠ [] ∧ dtx p.1 p.2 = L := by
  unfold rdI at h
  split at h
  · cases h
  · split at h
    · rename_i q
      injection h with h
      rw [← h]; exact q
    · cases h
theorem rdI_complete {L : List UInt8} {k : Int} {xs : List Int} (h : dtx k xs = L) (hL : L ≠ []) : rdI L = some (k, xs) := by
  obtain ⟨h1, h2⟩ := cand_good h hL
  unfold rdI
  rw [h1, h2]
  exact if_pos ⟨hL, h⟩
/-- BOTH READ ALIKE -/
theorem rd_same (L : List UInt8) : rdI L = rdS L := by
  cases hs : rdS L with
  | some p =>
    obtain ⟨h1, h2⟩ := rdS_sound hs
    exact rdI_complete h2 h1
  | none =>
    cases hi : rdI L with
    | none => rfl
    | some p =>
      obtain ⟨h1, h2⟩ := rdI_sound hi
      rw [rdS_complete h2 h1] at hs
      cases hs
end Go.Proofs.YtcejdgnfmcgopaaGreatDoor
