/- What is proved: what a deed makes of a space is a space; the distances below are ultrametric. No condition. -/
import Derived.Test.YtbkefojepelggaaMade
namespace Go.Proofs.Ytbkefojepelggaa
open Go.RowKit
theorem sp_tri {D : List (List Int)} (h : spB D = true) : ∀ i, i < D.length → ∀ k, k < D.length → ∀ j, j < D.length → at2 D i k ≤ at2 D i j + at2 D j k := by
  unfold spB at h
  rw [Bool.and_eq_true] at h
  intro i hi k hk j hj
  have h1 := (allR_all _ _).1 h.2 i hi
  have h2 := (allR_all _ _).1 h1 k hk
  have h3 := (allR_all _ _).1 h2 j hj
  exact of_decide_eq_true h3
/-- a space by its parts -/
theorem sp_mk {D : List (List Int)} (h1 : 1 ≤ D.length) (h6 : D.length ≤ 6) (hsq : Sq D) (hc : ∀ i, i < D.length → ∀ k, k < D.length → (0 ≤ at2 D i k ∧ at2 D i k ≤ 60) ∧ at2 D i k = at2 D k i ∧ (at2 D i k = 0 ↔ i = k))
    (ht : ∀ i, i < D.length → ∀ k, k < D.length → ∀ j, j < D.length → at2 D i k ≤ at2 D i j + at2 D j k) : spB D = true := by
  unfold spB farB
  rw [Bool.and_eq_true, Bool.and_eq_true, Bool.and_eq_true]
  refine ⟨⟨decide_eq_true ⟨h1, h6⟩, sq_sqB hsq, ?_⟩, ?_⟩
  · refine (allR_all _ _).2 fun i hi => (allR_all _ _).2 fun k hk => ?_
    obtain ⟨⟨a, b⟩, c, d⟩ := hc i hi k hk
    exact decide_eq_true ⟨a, b, c, d⟩
  · exact (allR_all _ _).2 fun i hi => (allR_all _ _).2 fun k hk => (allR_all _ _).2 fun j hj => decide_eq_true (ht i hi k hk j hj)
theorem wpV_at {D : List (List Int)} {xs : List Int} (hsq : Sq D) (hl : xs.length = D.length) {i k : Nat} (hi : i ≤ D.length) (hk : k ≤ D.length) :
    at2 (wpV D xs) i k = if i < D.length then (if k < D.length then at2 D i k else ix xs i) else (if k < D.length then ix xs k else 0) := by
  unfold at2
  by_cases h1 : i < D.length
  · rw [if_pos h1, wpV_row h1]
    have hr := hsq i h1
    by_cases h2 : k < D.length
    · rw [if_pos h2]
      unfold ix
      simp [List.getD, List.getElem?_append_left (show k < (row D i).length by omega)]
    · rw [if_neg h2]
      obtain rfl : k = D.length := by omega
      unfold ix
      simp [List.getD, hr]
  · rw [if_neg h1]
    obtain rfl : i = D.length := by omega
    rw [wpV_last]
    by_cases h2 : k < D.length
    · rw [if_pos h2]
      unfold ix
      simp [List.getD, List.getElem?_append_left (show k < xs.length by omega)]
    · rw [if_neg h2]
      obtain rfl : k = D.length := by omega
      unfold ix
      simp [List.getD, hl]
theorem wpV_sp {D : List (List Int)} {xs : List Int} (h : fitsB D xs = true) : spB (wpV D xs) = true := by
  obtain ⟨hs, h6, hl, hI, hA⟩ := fits_parts h
  obtain ⟨⟨n1, -⟩, hsq, hc⟩ := farB_parts (spB_far hs)
  have hin : ∀ k, k < D.length → 1 ≤ ix xs k ∧ ix xs k ≤ 60 := fun k hk => inB_iff.1 ((allR_all _ _).1 hI k hk)
  have hcell : ∀ k, k < D.length → ∀ j, j < D.length → ix xs k - ix xs j ≤ at2 D k j ∧ (k = j ∨ at2 D k j ≤ ix xs k + ix xs j) := fun k hk j hj => by
    have := (allR_all _ _).1 ((allR_all _ _).1 hA k hk) j hj
    unfold pfC at this
    rw [Bool.and_eq_true, Bool.or_eq_true] at this
    exact ⟨of_decide_eq_true this.1, this.2.imp of_decide_eq_true of_decide_eq_true⟩
  have ht := sp_tri hs
  have hlen := wpV_len D xs
  refine sp_mk (by omega) (by omega) (fun i hi => ?_) (fun i hi k hk => ?_) (fun i hi k hk j hj => ?_)
  · rw [hlen] at hi ⊢
    by_cases q : i < D.length
    · rw [wpV_row q, List.length_append, hsq i q]; rfl
    · obtain rfl : i = D.length := by omega
      rw [wpV_last, List.length_append, hl]; rfl
  · rw [hlen] at hi hk
    rw [wpV_at hsq hl (by omega) (by omega), wpV_at hsq hl (by omega) (by omega)]
    by_cases q1 : i < D.length
    · by_cases q2 : k < D.length
      · simp only [if_pos q1, if_pos q2]
        obtain ⟨a, b, c, d⟩ := hc i q1 k q2
        exact ⟨⟨a, b⟩, c, d⟩
      · simp only [if_pos q1, if_neg q2]
        have := hin i q1
        exact ⟨by omega, by first | rfl | trivial, by omega⟩
    · by_cases q2 : k < D.length
      · simp only [if_neg q1, if_pos q2]
        have := hin k q2
        exact ⟨by omega, by first | rfl | trivial, by omega⟩
      · have e : i = k := by omega
        simp only [if_neg q1, if_neg q2]
        exact ⟨by omega, by first | rfl | trivial, by simp [e]⟩
  · rw [hlen] at hi hk hj
    rw [wpV_at hsq hl (by omega) (by omega), wpV_at hsq hl (by omega) (by omega), wpV_at hsq hl (by omega) (by omega)]
    by_cases q1 : i < D.length <;> by_cases q2 : k < D.length <;> by_cases q3 : j < D.length
    · simp only [if_pos q1, if_pos q2, if_pos q3]; exact ht i q1 k q2 j q3
    · simp only [if_pos q1, if_pos q2, if_neg q3]
      rcases (hcell i q1 k q2).2 with e | e
      · subst e
        have h0 := (hc i q1 i q1).2.2.2.2 rfl
        have := hin i q1
        omega
      · exact e
    · simp only [if_pos q1, if_neg q2, if_pos q3]
      have := (hcell i q1 j q3).1
      omega
    · simp only [if_pos q1, if_neg q2, if_neg q3]; omega
    · simp only [if_neg q1, if_pos q2, if_pos q3]
      have h1 := (hcell k q2 j q3).1
      have h2 := (hc k q2 j q3).2.2.1
      omega
    · simp only [if_neg q1, if_pos q2, if_neg q3]; omega
    · simp only [if_neg q1, if_neg q2, if_pos q3]
      have := hin j q3
      omega
    · simp only [if_neg q1, if_neg q2, if_neg q3]; omega
/-- the place of a point that is left -/
def skp (p i : Nat) : Nat := if i < p then i else i + 1
theorem woV_row {D : List (List Int)} {p i : Nat} (hi : i < (D.eraseIdx p).length) : row (woV D p) i = (row D (skp p i)).eraseIdx p := by
  unfold woV skp
  have h1 : i < ((D.eraseIdx p).map fun r => r.eraseIdx p).length := by simpa using hi
  rw [row_of h1, List.getElem_map, List.getElem_eraseIdx]
  split
  · rw [row_of]
  · rw [row_of]
theorem ix_erase {xs : List Int} {p k : Nat} (hk : k < (xs.eraseIdx p).length) : ix (xs.eraseIdx p) k = ix xs (skp p k) := by
  unfold skp
  rw [ix_of hk, List.getElem_eraseIdx]
  split
  · rw [ix_of]
  · rw [ix_of]
theorem woV_sp {D : List (List Int)} {p : Nat} (hs : spB D = true) (hp : p < D.length) (h2 : 2 ≤ D.length) : spB (woV D p) = true := by
  obtain ⟨⟨n1, n6⟩, hsq, hc⟩ := farB_parts (spB_far hs)
  have ht := sp_tri hs
  have hlen : (woV D p).length = D.length - 1 := by unfold woV; rw [List.length_map, List.length_eraseIdx, if_pos hp]
  have hle : (D.eraseIdx p).length = D.length - 1 := by rw [List.length_eraseIdx, if_pos hp]
  have hsk : ∀ i, i < D.length - 1 → skp p i < D.length := fun i hi => by unfold skp; split <;> omega
  have hat : ∀ i, i < D.length - 1 → ∀ k, k < D.length - 1 → at2 (woV D p) i k = at2 D (skp p i) (skp p k) := fun i hi k hk => by
    unfold at2
    rw [woV_row (by omega), ix_erase]
    rw [List.length_eraseIdx, if_pos (by rw [hsq _ (hsk i hi)]; exact hp), hsq _ (hsk i hi)]
    exact hk
  refine sp_mk (by omega) (by omega) (fun i hi => ?_) (fun i hi k hk => ?_) (fun i hi k hk j hj => ?_)
  · rw [hlen] at hi ⊢
    rw [woV_row (by omega), List.length_eraseIdx, if_pos (by rw [hsq _ (hsk i hi)]; exact hp), hsq _ (hsk i hi)]
  · rw [hlen] at hi hk
    rw [hat i hi k hk, hat k hk i hi]
    obtain ⟨a, b, c, d⟩ := hc _ (hsk i hi) _ (hsk k hk)
    refine ⟨⟨a, b⟩, c, d.trans ⟨fun e => ?_, fun e => by rw [e]⟩⟩
    unfold skp at e
    split at e <;> split at e <;> omega
  · rw [hlen] at hi hk hj
    rw [hat i hi k hk, hat i hi j hj, hat j hj k hk]
    exact ht _ (hsk i hi) _ (hsk k hk) _ (hsk j hj)
theorem ordD_sp {D : List (List Int)} {o : List Int} (hs : spB D = true) (ho : ordOk o = true) (hl : o.length = D.length) : spB (ordD D o) = true := by
  obtain ⟨⟨n1, n6⟩, hsq, hc⟩ := farB_parts (spB_far hs)
  have ht := sp_tri hs
  obtain ⟨-, -, h3, h4⟩ := ordOk_facts ho
  have hlt : ∀ i, i < o.length → (ix o i).toNat < D.length := fun i hi => by have := h3 i hi; omega
  refine sp_mk (by rw [ordD_len]; omega) (by rw [ordD_len]; omega) (ordD_sq D o) (fun i hi k hk => ?_) (fun i hi k hk j hj => ?_)
  · rw [ordD_len] at hi hk
    rw [ordD_at hi hk, ordD_at hk hi]
    obtain ⟨a, b, c, d⟩ := hc _ (hlt i hi) _ (hlt k hk)
    refine ⟨⟨a, b⟩, c, d.trans ⟨fun e => h4 i k hi hk ?_, fun e => by rw [e]⟩⟩
    have := h3 i hi
    have := h3 k hk
    omega
  · rw [ordD_len] at hi hk hj
    rw [ordD_at hi hk, ordD_at hi hj, ordD_at hj hk]
    exact ht _ (hlt i hi) _ (hlt k hk) _ (hlt j hj)
theorem fir1_sp {D : List (List Int)} {L : List (List Int)} (h : ∀ i, i < L.length → spB (ordD D (row L i)) = true) : ∀ g i b, i + g ≤ L.length → spB b = true → spB (fir1 D L g i b) = true
  | 0, _, b, _, hb => hb
  | g + 1, i, b, hi, hb => by
    refine fir1_sp h g (i + 1) _ (by omega) ?_
    show spB (if cmpM (ordD D (row L i)) b < 0 then ordD D (row L i) else b) = true
    split
    · exact h i (by omega)
    · exact hb
theorem fofV_sp {D : List (List Int)} (hs : spB D = true) (h5 : D.length ≤ 5) : spB (fofV D) = true := by
  have n1 := (spB_len hs).1
  unfold fofV
  rw [if_pos ⟨hs, h5⟩]
  refine fir1_sp (fun i hi => ordD_sp hs (ordK_ok _ n1 h5 i hi) ((ordK_facts _ _ h5 (Nat.le_refl _)).2.2 i hi).1) _ _ _ (by omega) hs
/-- what the steps keep -/
def Blq (n : Nat) (E : List (List Int)) : Prop := Sq E ∧ E.length = n
theorem blw_q {n m i j : Nat} {E : List (List Int)} (h : Blq n E) (hi : i < n) : Blq n (blw m i j E) := by
  obtain ⟨hs, hl⟩ := h
  exact ⟨hs.set2 (by omega) _, by unfold blw; rw [set2_len]; exact hl⟩
theorem blw_at {n m i j : Nat} {E : List (List Int)} (h : Blq n E) (hi : i < n) (hj : j < n) (a b : Nat) : at2 (blw m i j E) a b = if a = i ∧ b = j then min (at2 E i j) (max (at2 E i m) (at2 E m j)) else at2 E a b := by
  obtain ⟨hs, hl⟩ := h
  unfold blw
  rw [set2_at (by omega) (by rw [hs i (by omega)]; omega)]
/-- one row: places from j on -/
theorem blJ_at {n m i : Nat} (hi : i < n) (hm : m < n) : ∀ g j (E : List (List Int)), j + g = n → Blq n E → at2 E m m = 0 → (∀ a, a < n → 0 ≤ at2 E i a) →
    Blq n (blJ m i g j E) ∧ ∀ a b, a < n → b < n → at2 (blJ m i g j E) a b = if a = i ∧ j ≤ b then min (at2 E i b) (max (at2 E i m) (at2 E m b)) else at2 E a b
  | 0, j, E, hj, hE, _, _ => ⟨hE, fun a b ha hb => by rw [if_neg (by omega)]; rfl⟩
  | g + 1, j, E, hj, hE, h0, hp => by
    have hjn : j < n := by omega
    have hq := blw_q (m := m) (j := j) hE hi
    have hat := blw_at (m := m) hE hi hjn
    -- the cell (i, m) and the row m stay
    have him : at2 (blw m i j E) i m = at2 E i m := by
      rw [hat]
      by_cases e : m = j
      · subst e
        rw [if_pos ⟨rfl, rfl⟩]
        have := hp m hm
        by_cases e2 : i = m
        · subst e2; omega
        · rw [h0]; omega
      · rw [if_neg (by omega)]
    have hmr : ∀ b, b < n → at2 (blw m i j E) m b = at2 E m b := fun b hb => by
      rw [hat]
      by_cases e : m = i ∧ b = j
      · obtain ⟨rfl, rfl⟩ := e
        rw [if_pos ⟨rfl, rfl⟩]
        have := hp b hb
        have h0' : at2 E m m = 0 := h0
        omega
      · rw [if_neg e]
    obtain ⟨h1, h2⟩ := blJ_at hi hm g (j + 1) (blw m i j E) (by omega) hq (by rw [hmr m hm]; exact h0) (fun a ha => by
      rw [hat]
      split
      · have := hp j hjn
        have := hp m hm
        omega
      · exact hp a ha)
    refine ⟨h1, fun a b ha hb => ?_⟩
    have hstep : blJ m i (g + 1) j E = blJ m i g (j + 1) (blw m i j E) := rfl
    rw [hstep, h2 a b ha hb]
    by_cases e : a = i
    · subst e
      by_cases e1 : j + 1 ≤ b
      · rw [if_pos ⟨rfl, e1⟩, if_pos ⟨rfl, by omega⟩, him, hmr b hb, hat, if_neg (by omega)]
      · rw [if_neg (fun q => e1 q.2), hat]
        by_cases e2 : b = j
        · subst e2
          rw [if_pos ⟨rfl, rfl⟩, if_pos ⟨rfl, Nat.le_refl _⟩]
        · rw [if_neg (fun q => e2 q.2), if_neg (by omega)]
    · rw [if_neg (fun q => e q.1), if_neg (fun q => e q.1), hat, if_neg (fun q => e q.1)]
/-- all rows: rows from i on -/
theorem blI_at {n m : Nat} (hm : m < n) : ∀ g i (E : List (List Int)), i + g = n → Blq n E → at2 E m m = 0 → (∀ a, a < n → ∀ b, b < n → 0 ≤ at2 E a b) →
    Blq n (blI n m g i E) ∧ ∀ a b, a < n → b < n → at2 (blI n m g i E) a b = if i ≤ a then min (at2 E a b) (max (at2 E a m) (at2 E m b)) else at2 E a b
  | 0, i, E, hi, hE, _, _ => ⟨hE, fun a b ha hb => by rw [if_neg (by omega)]; rfl⟩
  | g + 1, i, E, hi, hE, h0, hp => by
    have hin : i < n := by omega
    obtain ⟨q1, q2⟩ := blJ_at hin hm n 0 E (by omega) hE h0 (hp i hin)
    have hat : ∀ a b, a < n → b < n → at2 (blJ m i n 0 E) a b = if a = i then min (at2 E a b) (max (at2 E a m) (at2 E m b)) else at2 E a b := fun a b ha hb => by
      rw [q2 a b ha hb]
      by_cases e : a = i
      · rw [if_pos ⟨e, Nat.zero_le _⟩, if_pos e, e]
      · rw [if_neg (fun q => e q.1), if_neg e]
    have hmr : ∀ b, b < n → at2 (blJ m i n 0 E) m b = at2 E m b := fun b hb => by
      rw [hat m b hm hb]
      by_cases e : m = i
      · rw [if_pos e, h0]
        have := hp m hm b hb
        omega
      · rw [if_neg e]
    obtain ⟨h1, h2⟩ := blI_at hm g (i + 1) (blJ m i n 0 E) (by omega) q1 (by rw [hmr m hm]; exact h0) (fun a ha b hb => by
      rw [hat a b ha hb]
      split
      · have := hp a ha b hb
        have := hp a ha m hm
        omega
      · exact hp a ha b hb)
    refine ⟨h1, fun a b ha hb => ?_⟩
    have hstep : blI n m (g + 1) i E = blI n m g (i + 1) (blJ m i n 0 E) := rfl
    rw [hstep, h2 a b ha hb]
    by_cases e : i + 1 ≤ a
    · rw [if_pos e, if_pos (by omega), hmr b hb, hat a b ha hb, hat a m ha hm, if_neg (by omega), if_neg (by omega)]
    · rw [if_neg e, hat a b ha hb]
      by_cases e2 : a = i
      · rw [if_pos e2, if_pos (by omega)]
      · rw [if_neg e2, if_neg (by omega)]
/-- a distance below, under way: over the points below m it is ultrametric -/
def BlP (n m : Nat) (E : List (List Int)) : Prop :=
  Blq n E ∧ (∀ a b, a < n → b < n → 0 ≤ at2 E a b ∧ at2 E a b ≤ 60 ∧ at2 E a b = at2 E b a ∧ (at2 E a b = 0 ↔ a = b)) ∧ ∀ j, j < m → ∀ a b, a < n → b < n → at2 E a b ≤ max (at2 E a j) (at2 E j b)
theorem blI_p {n m : Nat} {E : List (List Int)} (hm : m < n) (h : BlP n m E) : BlP n (m + 1) (blI n m n 0 E) := by
  obtain ⟨hq, hc, hu⟩ := h
  obtain ⟨h1, h2⟩ := blI_at hm n 0 E (by omega) hq ((hc m m hm hm).2.2.2.2 rfl) (fun a ha b hb => (hc a b ha hb).1)
  have hat : ∀ a b, a < n → b < n → at2 (blI n m n 0 E) a b = min (at2 E a b) (max (at2 E a m) (at2 E m b)) := fun a b ha hb => by rw [h2 a b ha hb, if_pos (Nat.zero_le _)]
  refine ⟨h1, fun a b ha hb => ?_, fun j hj a b ha hb => ?_⟩
  · rw [hat a b ha hb, hat b a hb ha]
    obtain ⟨x1, x2, x3, x4⟩ := hc a b ha hb
    obtain ⟨y1, y2, y3, y4⟩ := hc a m ha hm
    obtain ⟨z1, z2, z3, z4⟩ := hc m b hm hb
    refine ⟨by omega, by omega, by rw [← x3, ← y3, ← z3]; omega, fun e => ?_, fun e => ?_⟩
    · by_cases q : at2 E a b = 0
      · exact x4.1 q
      · have e1 := y4.1 (by omega)
        have e2 := z4.1 (by omega)
        omega
    · have := x4.2 e
      omega
  · rw [hat a b ha hb]
    by_cases e : j = m
    · subst e
      have hmm := (hc j j hm hm).2.2.2.2 rfl
      rw [hat a j ha hm, hat j b hm hb]
      have p1 := (hc a j ha hm).1
      have p2 := (hc j b hm hb).1
      omega
    · have hjn : j < n := by omega
      rw [hat a j ha hjn, hat j b hjn hb]
      have u1 := hu j (by omega) a b ha hb
      have u2 := hu j (by omega) a m ha hm
      have u3 := hu j (by omega) m b hm hb
      have u4 := hu j (by omega) m m hm hm
      have s1 := (hc m j hm hjn).2.2.1
      omega
theorem blM_p {n : Nat} : ∀ g m (E : List (List Int)), m + g = n → BlP n m E → BlP n n (blM n g m E)
  | 0, m, E, hm, h => by obtain rfl : m = n := by omega
                         exact h
  | g + 1, m, E, hm, h => blM_p g (m + 1) (blI n m n 0 E) (by omega) (blI_p (by omega) h)
theorem blwV_p {D : List (List Int)} (hf : farB D = true) : BlP D.length D.length (blwV D) := by
  obtain ⟨⟨n1, n6⟩, hsq, hc⟩ := farB_parts hf
  refine blM_p D.length 0 D (by omega) ⟨⟨hsq, rfl⟩, fun a b ha hb => ?_, fun j hj => absurd hj (by omega)⟩
  obtain ⟨x1, x2, x3, x4⟩ := hc a ha b hb
  exact ⟨x1, x2, x3, x4⟩
theorem blwV_sp {D : List (List Int)} (hf : farB D = true) : spB (blwV D) = true := by
  obtain ⟨⟨n1, n6⟩, -⟩ := farB_parts hf
  obtain ⟨⟨hsq, hl⟩, hc, hu⟩ := blwV_p hf
  refine sp_mk (by omega) (by omega) hsq (fun i hi k hk => ?_) (fun i hi k hk j hj => ?_)
  · obtain ⟨a, b, c, d⟩ := hc i k (by omega) (by omega)
    exact ⟨⟨a, b⟩, c, d⟩
  · have := hu j (by omega) i k (by omega) (by omega)
    have p1 := (hc i j (by omega) (by omega)).1
    have p2 := (hc j k (by omega) (by omega)).1
    omega
theorem blwV_ultra {D : List (List Int)} (hf : farB D = true) : ∀ i, i < (blwV D).length → ∀ k, k < (blwV D).length → ∀ j, j < (blwV D).length → at2 (blwV D) i k ≤ max (at2 (blwV D) i j) (at2 (blwV D) j k) := by
  obtain ⟨⟨hsq, hl⟩, hc, hu⟩ := blwV_p hf
  rw [hl]
  exact fun i hi k hk j hj => hu j hj i k hi hk
/-- what a deed makes of a space is a space -/
theorem made_sp {D : List (List Int)} {kind : Int} {xs : List Int} (hs : spB D = true) (h : madeB D kind xs = true) : spB (madeV D kind xs) = true := by
  unfold madeB at h
  unfold madeV
  by_cases h0 : kind = 0
  · rw [if_pos h0] at h ⊢
    unfold wpB
    rw [if_pos h]
    exact wpV_sp h
  rw [if_neg h0] at h ⊢
  by_cases h1 : kind = 1 ∧ xs.length = 1
  · rw [if_pos h1] at h ⊢
    unfold woB
    rw [if_pos h]
    unfold woOk pointB at h
    rw [Bool.and_eq_true, Bool.and_eq_true] at h
    have a := of_decide_eq_true h.1.2
    have b := of_decide_eq_true h.2
    exact woV_sp hs (by omega) b
  rw [if_neg h1] at h ⊢
  by_cases h2 : kind = 2 ∧ xs.length = 0
  · rw [if_pos h2] at h ⊢
    exact fofV_sp hs (of_decide_eq_true h)
  rw [if_neg h2] at h ⊢
  by_cases h3 : kind = 3 ∧ xs.length = 0
  · rw [if_pos h3]
    exact blwV_sp (spB_far hs)
  · rw [if_neg h3] at h
    cases h
end Go.Proofs.Ytbkefojepelggaa
