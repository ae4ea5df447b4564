/- What is proved: contracts and plain laws for what the later texts lean on (Srt, Div, BD, BD2, Tree, Pwg, Pst). Conditions: those of each. -/
import Derived.Test.YtnalcgcdohlfiaaGreatDoorPk
import Derived.Test.YtnalcgcdohlfiaaGreatDoorShelf
import Derived.Sort.OwnSortedInts
import Derived.Test.YtnalcgcdohlfiaaGreatDoorPe
import Derived.Lib.SlicesCompact
namespace Go.Proofs.YtnalcgcdohlfiaaGreatDoor
open Go.RowKit Go.Sort
def srt (xs : List Int) : List Int := xs.mergeSort fun x y => decide (x ≤ y)
theorem srt_len (xs : List Int) : (srt xs).length = xs.length := List.length_mergeSort xs
theorem srt_mem {xs : List Int} {x : Int} : x ∈ srt xs ↔ x ∈ xs := (List.mergeSort_perm xs _).mem_iff
theorem srt3_form (x y z : Int) : ∃ a b c, srt [x, y, z] = [a, b, c] ∧ a ≤ b ∧ b ≤ c ∧ a + b + c = x + y + z ∧ c = max (max x y) z ∧ a = min (min x y) z := by
  have hlen := srt_len [x, y, z]
  have hp := List.pairwise_mergeSort (le := fun x y : Int => decide (x ≤ y)) (fun a b c => by simp only [decide_eq_true_eq]; omega) (fun a b => by simp only [Bool.or_eq_true, decide_eq_true_eq]; omega) [x, y, z]
  have hperm := List.mergeSort_perm [x, y, z] (fun x y => decide (x ≤ y))
  change (srt [x, y, z]).Pairwise _ at hp
  change (srt [x, y, z]).Perm _ at hperm
  obtain ⟨a, b, c, e⟩ : ∃ a b c, srt [x, y, z] = [a, b, c] := by
    match h : srt [x, y, z], hlen with
    | [a, b, c], _ => exact ⟨a, b, c, rfl⟩
  rw [e] at hp hperm
  simp only [List.pairwise_cons, List.mem_cons, List.not_mem_nil, or_false, decide_eq_true_eq, forall_eq_or_imp, forall_eq] at hp
  have hs : a + b + c = x + y + z := by
    have := List.Perm.foldr_eq' hperm (f := fun p q => p + q) (fun p _ q _ r => by omega) 0
    simp at this
    omega
  have m1 := (hperm.mem_iff (a := c)).1 (by simp)
  have m2 := (hperm.mem_iff (a := a)).1 (by simp)
  have n1 := (hperm.mem_iff (a := x)).2 (by simp)
  have n2 := (hperm.mem_iff (a := y)).2 (by simp)
  have n3 := (hperm.mem_iff (a := z)).2 (by simp)
  simp only [List.mem_cons, List.not_mem_nil, or_false] at m1 m2 n1 n2 n3
  obtain ⟨⟨p1, p2⟩, p3, -⟩ := hp
  refine ⟨a, b, c, e, p1, p3, hs, ?_, ?_⟩
  · omega
  · omega
theorem srt3 (x y z : Int) : ix (srt [x, y, z]) 0 ≤ ix (srt [x, y, z]) 1 ∧ ix (srt [x, y, z]) 1 ≤ ix (srt [x, y, z]) 2 ∧ ix (srt [x, y, z]) 0 + ix (srt [x, y, z]) 1 + ix (srt [x, y, z]) 2 = x + y + z ∧ ix (srt [x, y, z]) 2 = max (max x y) z ∧ ix (srt [x, y, z]) 0 = min (min x y) z := by
  obtain ⟨a, b, c, e, h⟩ := srt3_form x y z
  rw [e]
  exact h
theorem srt_bd {xs : List Int} (h3 : xs.length = 3) {a b : Int} (h : ∀ x ∈ xs, a ≤ x ∧ x ≤ b) : (a ≤ ix (srt xs) 1 ∧ ix (srt xs) 1 ≤ b) ∧ (a ≤ ix (srt xs) 2 ∧ ix (srt xs) 2 ≤ b) := by
  have hl := srt_len xs
  exact ⟨h _ (srt_mem.1 (by rw [ix_of (by omega)]; exact List.getElem_mem _)), h _ (srt_mem.1 (by rw [ix_of (by omega)]; exact List.getElem_mem _))⟩
theorem leaf_three {w w1 : World} {v : Value} {xs : List Int} (hL : Leaf w1 v xs) (hF : ∀ g ∈ lb v, w.heap.size ≤ g) (h3 : xs.length = 3) :
    ∃ (blk c : Nat) (cs : Array Value), v = .slice (some ⟨blk, 0, none⟩) 3 c ∧ w.heap.size ≤ blk ∧ w1.heap[blk]? = some (.cells cs 3 (0, 0)) ∧ ∀ j, j < xs.length → cs[j]? = some (.int .i64 (ix xs j)) := by
  obtain ⟨A, c, rfl, hc, hm, hx⟩ := hL
  obtain ⟨g, cs, rfl, hg, hcs⟩ := hx (by omega)
  refine ⟨g, c, cs, by rw [h3], hF g ?_, hg, hcs⟩
  rw [h3]
  simp [lb]
theorem sort3_any (blk c : Nat) (cs : Array Value) (xs : List Int) (w : World) (h3 : xs.length = 3) (hb : w.heap[blk]? = some (.cells cs 3 (0, 0))) (hcs : ∀ j, j < xs.length → cs[j]? = some (.int .i64 (ix xs j))) :
    Calls Tryz.prog 100 #[.slice (some ⟨blk, 0, none⟩) 3 c] w fun e w' => e = .returned (.tuple #[]) ∧ w'.cell? ⟨blk, 1, none⟩ = some (.int .i64 (ix (srt xs) 1)) ∧ w'.cell? ⟨blk, 2, none⟩ = some (.int .i64 (ix (srt xs) 2)) ∧ ∀ w0, Ext w0 w → w0.heap.size ≤ blk → Ext w0 w' := by
  have hlt := heap_lt hb
  have ht : cs.toList.take xs.length = xs.map (Value.int .i64) := by
    apply List.ext_getElem?
    intro j
    by_cases hj : j < xs.length
    · rw [List.getElem?_take_of_lt hj, Array.getElem?_toList, hcs j hj]
      simp [hj, ix_of hj]
    · rw [List.getElem?_take_eq_none (by omega), List.getElem?_eq_none (by simp; omega)]
  have hH := holds_of_blockI hb ht
  have hC := slices_Sort_int blk 0 c xs w hH hlt (by omega)
  rw [h3] at hC
  refine hC.mono ?_
  rintro e w' ⟨rfl, n, os, rfl⟩
  have hsz : 3 ≤ cs.size := by
    have := hcs 2 (by omega)
    rcases Nat.lt_or_ge 2 cs.size with q | q
    · exact q
    · rw [Array.getElem?_eq_none q] at this; cases this
  have hb2 := heap_sortedI (n := n) (os := os) (srt xs).toArray hb
  have hl := srt_len xs
  have hcell : ∀ j, j < 3 → (grow (putRow (Value.int .i64) (Sort.ahead w n) blk 0 (srt xs).toArray) os).cell? ⟨blk, j, none⟩ = some (.int .i64 (ix (srt xs) j)) := fun j hj => by
    rw [cell_cells hb2 j]
    have hq : j < (srt xs).length := by omega
    simp only [putCells, Array.getElem?_mapIdx]
    rw [Array.getElem?_eq_getElem (by omega)]
    simp [hq, ix_of hq]
  refine ⟨rfl, hcell 1 (by omega), hcell 2 (by omega), fun w0 hx h0 => ?_⟩
  have hsz0 := hx.size
  obtain ⟨g1, g2, g3, g4, g5⟩ := grownBy_sortedI (w := w) (g := blk) (n := n) (os := os) (srt xs).toArray
  exact ⟨g1.trans (Below.os hx), g2.trans (Below.tape hx), g3.trans (Below.output hx), Nat.le_trans hsz0 g4, fun i hi => (g5 i (by omega) (fun e => by injection e with e; omega)).trans (Below.block hx i hi)⟩
end Go.Proofs.YtnalcgcdohlfiaaGreatDoor
namespace Go.Proofs.YtnalcgcdohlfiaaGreatDoor
open Go.RowKit

/-- rows of a lot and what it isolates -/
def Two (R : List (List Int)) : Prop := R.length ≤ 32 ∧ ∀ i, i < R.length → (row R i).length = 2 ∧ 1 ≤ at2 R i 0 ∧ at2 R i 0 ≤ 31 ∧ 1 ≤ at2 R i 1 ∧ at2 R i 1 ≤ 240
theorem two_rows {w : World} {A : Option Addr} {c : Nat} {R : List (List Int)} (h : Mat w A c R) (h2 : Two R) :
    ∃ (b o : Nat) (rc rb ro : Nat → Nat), (0 < R.length → A = some ⟨b, o, none⟩) ∧
      (∀ i, i < R.length → w.cell? ⟨b, o + i, none⟩ = some (.slice (some ⟨rb i, ro i, none⟩) 2 (rc i))) ∧
      (∀ i, i < R.length → w.cell? ⟨rb i, ro i, none⟩ = some (.int .i64 (at2 R i 0)) ∧ w.cell? ⟨rb i, ro i + 1, none⟩ = some (.int .i64 (at2 R i 1))) := by
  obtain ⟨b, o, Q, rc, rb, ro, hA, k1, -, k3, k4, -⟩ := h.parts
  refine ⟨b, o, rc, rb, ro, hA, fun i hi => ?_, fun i hi => ⟨?_, ?_⟩⟩
  · have e := (h2.2 i hi).1
    rw [k1 i hi, k3 i hi (by omega), e]
  · have e := (h2.2 i hi).1
    have := k4 i hi 0 (by omega)
    rwa [Nat.add_zero] at this
  · have e := (h2.2 i hi).1
    exact k4 i hi 1 (by omega)
def divS (R : List (List Int)) (a b : Nat) : Nat → Nat → Int → Int := itR (fun i s => if bitI (at2 R i 0) a = bitI (at2 R i 0) b then s else s + at2 R i 1)
def divL (R : List (List Int)) (a b : Nat) : Int := divS R a b R.length 0 0
theorem divS_eq {R : List (List Int)} {a b g i : Nat} {s l : Int} (e : at2 R i 0 = l) (h : bitI l a = bitI l b) : divS R a b (g + 1) i s = divS R a b g (i + 1) s := by
  unfold divS; rw [itR]; congr 1; subst e; exact if_pos h
theorem divS_ne {R : List (List Int)} {a b g i : Nat} {s l v : Int} (e : at2 R i 0 = l) (ev : at2 R i 1 = v) (h : ¬ bitI l a = bitI l b) : divS R a b (g + 1) i s = divS R a b g (i + 1) (s + v) := by
  unfold divS; rw [itR]; congr 1; subst e ev; exact if_neg h
theorem divL_bd {R : List (List Int)} (h2 : Two R) (a b : Nat) : 0 ≤ divL R a b ∧ divL R a b ≤ 7680 := by
  have := itR_inv (f := fun i s => if bitI (at2 R i 0) a = bitI (at2 R i 0) b then s else s + at2 R i 1) (fun j (s : Int) => 0 ≤ s ∧ s ≤ 240 * j) R.length 0 0 ⟨by omega, by omega⟩ (fun j s _ hj h => by
    obtain ⟨-, -, -, b1, b2⟩ := h2.2 j (by omega)
    by_cases q : bitI (at2 R j 0) a = bitI (at2 R j 0) b
    · simp only [if_pos q]; omega
    · simp only [if_neg q]; omega)
  have h32 := h2.1
  unfold divL divS
  omega
theorem splD_two {D : List (List Int)} (hs : spB D = true) : Two (splD D) := splD_rows hs

end Go.Proofs.YtnalcgcdohlfiaaGreatDoor
namespace Go.Proofs.YtnalcgcdohlfiaaGreatDoor
open Go.RowKit

/-- the distances less l for each two points that s parts -/
def sub1 (s : Nat → Bool) (l : Int) (e : Nat → Nat → Int) (x y : Nat) : Int := if s x = s y then e x y else e x y - l
/-- a space, perhaps with different points in one place -/
def GoodE (n : Nat) (e : Nat → Nat → Int) : Prop :=
  (∀ x, x < n → ∀ y, y < n → e x y = e y x) ∧ (∀ x, x < n → e x x = 0) ∧ (∀ x, x < n → ∀ y, y < n → ∀ z, z < n → e x y ≤ e x z + e z y)
/-- s isolates at least l -/
def IdxE (n : Nat) (e : Nat → Nat → Int) (s : Nat → Bool) (l : Int) : Prop :=
  ∀ x, x < n → ∀ y, y < n → ∀ z, z < n → ∀ w, w < n → s x = s y → s z = s w → s x ≠ s z → e x y + e z w + 2 * l ≤ max (e x z + e y w) (e x w + e y z)
/-- two splits are not the same -/
def NeE (n : Nat) (s t : Nat → Bool) : Prop := ∀ x, x < n → ∃ p, p < n ∧ ((s p = s x ∧ t p ≠ t x) ∨ (s p ≠ s x ∧ t p = t x))
theorem NeE.symm {n : Nat} {s t : Nat → Bool} (h : NeE n s t) : NeE n t s := fun x hx => by
  obtain ⟨p, hp, h1⟩ := h x hx
  exact ⟨p, hp, h1.elim (fun k => .inr ⟨k.2, k.1⟩) fun k => .inl ⟨k.2, k.1⟩⟩
theorem five {xy zw xz yw xw yz xp yp zp wp l m : Int} (h1 : xp + zw + 2 * l ≤ max (xz + wp) (xw + zp)) (h2 : yp + zw + 2 * l ≤ max (yz + wp) (yw + zp)) (h3 : xy + zp + 2 * m ≤ max (xz + yp) (xp + yz)) (h4 : xy + wp + 2 * m ≤ max (xw + yp) (xp + yw)) :
    xy + zw + 2 * l + 2 * m ≤ max (xz + yw) (xw + yz) := by omega
theorem bool3 {a b c : Bool} (h1 : a ≠ b) (h2 : c ≠ b) : c = a := by cases a <;> cases b <;> cases c <;> simp_all
theorem idx_step {n : Nat} {e : Nat → Nat → Int} (hG : GoodE n e) {s t : Nat → Bool} {l m : Int} (hs : IdxE n e s l) (ht : IdxE n e t m) (_hl : 0 < l) (hm : 0 < m) (hne : NeE n s t) : IdxE n (sub1 t m e) s l := by
  intro x hx y hy z hz w hw h1 h2 h3
  have q := hs x hx y hy z hz w hw h1 h2 h3
  obtain ⟨hsym, _, _⟩ := hG
  unfold sub1
  by_cases a : t x = t y
  · by_cases b : t z = t w
    · by_cases c : t x = t z
      · rw [if_pos a, if_pos b, if_pos c, if_pos (by rw [← a, c, b]), if_pos (by rw [c, b]), if_pos (by rw [← a, c])]; exact q
      · rw [if_pos a, if_pos b, if_neg c, if_neg (by rw [← a, ← b]; exact c), if_neg (by rw [← b]; exact c), if_neg (by rw [← a]; exact c)]
        have key : e x y + e z w + 2 * l + 2 * m ≤ max (e x z + e y w) (e x w + e y z) := by
          obtain ⟨p, hp, hpp⟩ := hne x hx
          rcases hpp with ⟨k1, k2⟩ | ⟨k1, k2⟩
          · have k3 : t p = t z := bool3 (Ne.symm c) k2
            have i1 := hs x hx p hp z hz w hw k1.symm h2 h3
            have i2 := hs y hy p hp z hz w hw (by rw [← h1, k1]) h2 (by rw [← h1]; exact h3)
            have i3 := ht x hx y hy z hz p hp a k3.symm c
            have i4 := ht x hx y hy w hw p hp a (by rw [k3, b]) (by rw [← b]; exact c)
            rw [hsym p hp w hw, hsym p hp z hz] at i1 i2
            exact five i1 i2 i3 i4
          · have k3 : s p = s z := bool3 (Ne.symm h3) k1
            have i1 := ht x hx p hp z hz w hw k2.symm b c
            have i2 := ht y hy p hp z hz w hw (by rw [← a, k2]) b (by rw [← a]; exact c)
            have i3 := hs x hx y hy z hz p hp h1 k3.symm h3
            have i4 := hs x hx y hy w hw p hp h1 (by rw [k3, h2]) (by rw [← h2]; exact h3)
            rw [hsym p hp w hw, hsym p hp z hz] at i1 i2
            have := five i1 i2 i3 i4
            omega
        omega
    · by_cases c : t x = t z
      · rw [if_pos a, if_neg b, if_pos c, if_neg (by rw [← a, c]; exact b), if_neg (by rw [c]; exact b), if_pos (by rw [← a, c])]; omega
      · have d : t x = t w := bool3 (Ne.symm b) c
        rw [if_pos a, if_neg b, if_neg c, if_pos (by rw [← a, d]), if_pos d, if_neg (by rw [← a]; exact c)]; omega
  · by_cases b : t z = t w
    · by_cases c : t x = t z
      · rw [if_neg a, if_pos b, if_pos c, if_neg (by rw [← b, ← c]; exact Ne.symm a), if_pos (by rw [c, b]), if_neg (by rw [← c]; exact Ne.symm a)]; omega
      · have d : t y = t z := bool3 (Ne.symm c) (Ne.symm a)
        rw [if_neg a, if_pos b, if_neg c, if_pos (by rw [d, b]), if_neg (by rw [← b]; exact c), if_pos d]; omega
    · by_cases c : t x = t z
      · have d : t y = t w := bool3 (by rw [← c] at b; exact Ne.symm b) (Ne.symm a)
        rw [if_neg a, if_neg b, if_pos c, if_pos d, if_neg (by rw [← d]; exact a), if_neg (by rw [← c]; exact Ne.symm a)]; omega
      · have d : t x = t w := bool3 (Ne.symm b) c
        have f : t y = t z := bool3 (Ne.symm c) (Ne.symm a)
        rw [if_neg a, if_neg b, if_neg c, if_neg (by rw [← d]; exact Ne.symm a), if_pos d, if_pos f]; omega
theorem good_step {n : Nat} {e : Nat → Nat → Int} (hG : GoodE n e) {t : Nat → Bool} {m : Int} (ht : IdxE n e t m) (_hm : 0 < m) : GoodE n (sub1 t m e) := by
  obtain ⟨hsym, hz0, htri⟩ := hG
  refine ⟨fun x hx y hy => ?_, fun x hx => ?_, fun x hx y hy z hz => ?_⟩
  · unfold sub1
    by_cases a : t x = t y
    · rw [if_pos a, if_pos a.symm, hsym x hx y hy]
    · rw [if_neg a, if_neg (Ne.symm a), hsym x hx y hy]
  · unfold sub1; rw [if_pos rfl]; exact hz0 x hx
  · have q := htri x hx y hy z hz
    unfold sub1
    by_cases a : t x = t y
    · by_cases b : t x = t z
      · rw [if_pos a, if_pos b, if_pos (by rw [← b, a])]; exact q
      · rw [if_pos a, if_neg b, if_neg (by rw [← a]; exact Ne.symm b)]
        have i := ht x hx y hy z hz z hz a rfl b
        rw [hz0 z hz, hsym y hy z hz] at i
        omega
    · by_cases b : t x = t z
      · rw [if_neg a, if_pos b, if_neg (by rw [← b]; exact a)]; omega
      · have d : t z = t y := bool3 (Ne.symm a) (Ne.symm b)
        rw [if_neg a, if_neg b, if_pos d]; omega
/-- the splits taken away, one after the other -/
def subL : List ((Nat → Bool) × Int) → (Nat → Nat → Int) → Nat → Nat → Int
  | [], e => e
  | p :: L, e => subL L (sub1 p.1 p.2 e)
def dsum : List ((Nat → Bool) × Int) → Nat → Nat → Int
  | [], _, _ => 0
  | p :: L, x, y => (if p.1 x = p.1 y then 0 else p.2) + dsum L x y
theorem subL_eq : ∀ (L : List ((Nat → Bool) × Int)) (e : Nat → Nat → Int) (x y : Nat), subL L e x y = e x y - dsum L x y
  | [], e, x, y => by simp [subL, dsum]
  | p :: L, e, x, y => by
    rw [subL, subL_eq L, dsum]
    unfold sub1
    split <;> omega
theorem good_subL {n : Nat} : ∀ (L : List ((Nat → Bool) × Int)) (e : Nat → Nat → Int), GoodE n e → (∀ p ∈ L, 0 < p.2 ∧ IdxE n e p.1 p.2) → L.Pairwise (fun p q => NeE n p.1 q.1) → GoodE n (subL L e)
  | [], _, h, _, _ => h
  | p :: L, e, h, hi, hp => by
    obtain ⟨h1, h2⟩ := hi p (List.mem_cons_self ..)
    rw [List.pairwise_cons] at hp
    rw [subL]
    refine good_subL L _ (good_step h h2 h1) (fun q hq => ?_) hp.2
    obtain ⟨k1, k2⟩ := hi q (List.mem_cons_of_mem _ hq)
    exact ⟨k1, idx_step h k2 h2 k1 h1 (hp.1 q hq).symm⟩

/-- a row (lot, what it isolates) as a split -/
def asS (r : List Int) : (Nat → Bool) × Int := (fun k => decide (bitI (ix r 0) k = 1), ix r 1)
theorem bit_dec {l : Int} {a b : Nat} : (decide (bitI l a = 1) = decide (bitI l b = 1)) ↔ bitI l a = bitI l b := by
  rcases bitI_01 l a with h | h <;> rcases bitI_01 l b with k | k <;> simp [h, k]
theorem divS_dsum (R : List (List Int)) (a b : Nat) : ∀ g i s, i + g = R.length → divS R a b g i s = s + dsum ((R.drop i).map asS) a b
  | 0, i, s, h => by rw [List.drop_eq_nil_of_le (by omega)]; simp [divS, itR, dsum]
  | g + 1, i, s, h => by
    have hi : i < R.length := by omega
    rw [List.drop_eq_getElem_cons hi, List.map_cons, dsum]
    have er : R[i] = row R i := (row_of hi).symm
    rw [er]
    show divS R a b (g + 1) i s = s + ((if (decide (bitI (ix (row R i) 0) a = 1) = decide (bitI (ix (row R i) 0) b = 1)) then 0 else ix (row R i) 1) + dsum ((R.drop (i + 1)).map asS) a b)
    by_cases q : bitI (ix (row R i) 0) a = bitI (ix (row R i) 0) b
    · rw [divS_eq (l := ix (row R i) 0) rfl q, divS_dsum R a b g (i + 1) s (by omega), if_pos (bit_dec.2 q)]; omega
    · rw [divS_ne (l := ix (row R i) 0) (v := ix (row R i) 1) rfl rfl q, divS_dsum R a b g (i + 1) _ (by omega), if_neg (fun k => q (bit_dec.1 k))]; omega
theorem divL_dsum (R : List (List Int)) (a b : Nat) : divL R a b = dsum (R.map asS) a b := by
  have := divS_dsum R a b R.length 0 0 (by omega)
  rw [List.drop_zero] at this
  unfold divL
  omega
theorem bits_ext : ∀ (m : Nat) (l k : Int), 0 ≤ l → 0 ≤ k → l < 2 ^ m → k < 2 ^ m → (∀ i, i < m → bitI l i = bitI k i) → l = k
  | 0, l, k, h1, h2, h3, h4, _ => by simp at h3 h4; omega
  | m + 1, l, k, h1, h2, h3, h4, h => by
    rw [Int.pow_succ] at h3 h4
    have h0 := h 0 (by omega)
    unfold bitI at h0
    simp at h0
    have := bits_ext m (l / 2) (k / 2) (by omega) (by omega) (by omega) (by omega) fun i hi => by
      have := h (i + 1) (by omega)
      unfold bitI at this ⊢
      rw [Int.pow_succ, Int.mul_comm, ← Int.ediv_ediv_of_nonneg (by decide), ← Int.ediv_ediv_of_nonneg (by decide)] at this
      exact this
    omega
theorem splG_up (f : Nat → Int) (N : Nat) (_hN : 1 ≤ N) : (splL f N).Pairwise (fun r q => ix r 0 < ix q 0) := by
  have := itR_inv (f := fun k R => if 0 < f k then R ++ [[(k : Int), f k]] else R) (fun j (R : List (List Int)) => R.Pairwise (fun r q => ix r 0 < ix q 0) ∧ ∀ r ∈ R, ix r 0 < j) (N - 1) 1 [] ⟨List.Pairwise.nil, fun r hr => by cases hr⟩ fun j R _ _ h => by
    obtain ⟨h1, h2⟩ := h
    by_cases q : 0 < f j
    · rw [if_pos q]
      refine ⟨?_, fun r hr => ?_⟩
      · rw [List.pairwise_append]
        refine ⟨h1, List.pairwise_singleton _ _, fun r hr x hx => ?_⟩
        rw [List.mem_singleton] at hx
        subst hx
        exact h2 r hr
      · rcases List.mem_append.1 hr with hr | hr
        · have := h2 r hr; omega
        · rw [List.mem_singleton] at hr; subst hr
          show (j : Int) < ((j + 1 : Nat) : Int); omega
    · rw [if_neg q]
      exact ⟨h1, fun r hr => by have := h2 r hr; omega⟩
  exact this.1
theorem lots_ne {n : Nat} {r q : List Int} (hn : 1 ≤ n) (h1 : 1 ≤ ix r 0) (h2 : ix r 0 < 2 ^ (n - 1)) (h3 : 1 ≤ ix q 0) (h4 : ix q 0 < 2 ^ (n - 1)) (hlt : ix r 0 ≠ ix q 0) : NeE n (asS r).1 (asS q).1 := by
  have hb1 := bit_last (n := n - 1) (show 0 ≤ ix r 0 by omega) h2
  have hb2 := bit_last (n := n - 1) (show 0 ≤ ix q 0 by omega) h4
  obtain ⟨p, hp, hpb⟩ : ∃ p, p < n - 1 ∧ bitI (ix r 0) p ≠ bitI (ix q 0) p := by
    refine Classical.byContradiction fun hno => hlt (bits_ext (n - 1) _ _ (by omega) (by omega) h2 h4 fun i hi => ?_)
    exact Classical.byContradiction fun h => hno ⟨i, hi, h⟩
  intro x hx
  show ∃ p, p < n ∧ ((decide (bitI (ix r 0) p = 1) = decide (bitI (ix r 0) x = 1) ∧ decide (bitI (ix q 0) p = 1) ≠ decide (bitI (ix q 0) x = 1)) ∨ (decide (bitI (ix r 0) p = 1) ≠ decide (bitI (ix r 0) x = 1) ∧ decide (bitI (ix q 0) p = 1) = decide (bitI (ix q 0) x = 1)))
  rcases bitI_01 (ix r 0) p with a | a <;> rcases bitI_01 (ix q 0) p with b | b <;> rcases bitI_01 (ix r 0) x with c | c <;> rcases bitI_01 (ix q 0) x with d | d
  all_goals first
    | exact absurd (a.trans b.symm) hpb
    | (refine ⟨p, by omega, ?_⟩; simp [a, b, c, d]; done)
    | (refine ⟨n - 1, by omega, ?_⟩; simp [hb1, hb2, c, d]; done)
/-- the lots of a space as splits -/
theorem spl_lots {D : List (List Int)} {r : List Int} (h : r ∈ splD D) : ∃ k : Nat, 1 ≤ k ∧ k < 2 ^ (D.length - 1) ∧ r = [(k : Int), isoI D k] ∧ 0 < isoI D k :=
  (splL_spec (fun k => isoI D k) (2 ^ (D.length - 1)) (Nat.one_le_two_pow)).2 r h
theorem iso_idx {D : List (List Int)} (hs : spB D = true) {l : Int} (hl : 0 < isoI D l) : IdxE D.length (fun x y => 2 * at2 D x y) (fun k => decide (bitI l k = 1)) (isoI D l) := by
  intro x hx y hy z hz w hw h1 h2 h3
  obtain ⟨_, hle, _⟩ := isoI_least D l
  have h1' := bit_dec.1 h1
  have h2' := bit_dec.1 h2
  have h3' : bitI l x ≠ bitI l z := fun k => h3 (bit_dec.2 k)
  have hc := (farB_parts (spB_far hs)).2.2
  show 2 * at2 D x y + 2 * at2 D z w + 2 * isoI D l ≤ max (2 * at2 D x z + 2 * at2 D y w) (2 * at2 D x w + 2 * at2 D y z)
  rcases bitI_01 l x with a | a <;> rcases bitI_01 l z with b | b
  · exact absurd (a.trans b.symm) h3'
  · have := hle _ ⟨z, hz, w, hw, x, hx, y, hy, ⟨b, h2' ▸ b, a, h1' ▸ a⟩, rfl⟩
    have e1 := (hc z hz x hx).2.2.1
    have e2 := (hc w hw y hy).2.2.1
    have e3 := (hc z hz y hy).2.2.1
    have e4 := (hc w hw x hx).2.2.1
    have : isoI D l ≤ max (max (at2 D z w + at2 D x y) (at2 D z x + at2 D w y)) (at2 D z y + at2 D w x) - (at2 D z w + at2 D x y) := this
    omega
  · have := hle _ ⟨x, hx, y, hy, z, hz, w, hw, ⟨a, h1' ▸ a, b, h2' ▸ b⟩, rfl⟩
    have : isoI D l ≤ max (max (at2 D x y + at2 D z w) (at2 D x z + at2 D y w)) (at2 D x w + at2 D y z) - (at2 D x y + at2 D z w) := this
    omega
  · exact absurd (a.trans b.symm) h3'
theorem two_good {D : List (List Int)} (hs : spB D = true) (ht : ∀ i, i < D.length → ∀ k, k < D.length → ∀ j, j < D.length → at2 D i k ≤ at2 D i j + at2 D j k) : GoodE D.length (fun x y => 2 * at2 D x y) := by
  have hc := (farB_parts (spB_far hs)).2.2
  refine ⟨fun x hx y hy => ?_, fun x hx => ?_, fun x hx y hy z hz => ?_⟩
  · have := (hc x hx y hy).2.2.1; show 2 * at2 D x y = 2 * at2 D y x; omega
  · have := (hc x hx x hx).2.2.2.2 rfl; show 2 * at2 D x x = 0; omega
  · have := ht x hx y hy z hz; show 2 * at2 D x y ≤ 2 * at2 D x z + 2 * at2 D z y; omega
/-- what is left is no space broken -/
theorem rest_good {D : List (List Int)} (hs : spB D = true) (ht : ∀ i, i < D.length → ∀ k, k < D.length → ∀ j, j < D.length → at2 D i k ≤ at2 D i j + at2 D j k) : GoodE D.length (fun x y => 2 * at2 D x y - divL (splD D) x y) := by
  have n1 := (spB_len hs).1
  have e : (fun x y => 2 * at2 D x y - divL (splD D) x y) = subL ((splD D).map asS) (fun x y => 2 * at2 D x y) := by
    funext x y
    rw [subL_eq, divL_dsum]
  rw [e]
  refine good_subL _ _ (two_good hs ht) (fun p hp => ?_) ?_
  · obtain ⟨r, hr, rfl⟩ := List.mem_map.1 hp
    obtain ⟨k, k1, k2, rfl, k3⟩ := spl_lots hr
    exact ⟨k3, iso_idx hs k3⟩
  · rw [List.pairwise_map]
    refine (splG_up _ _ (Nat.one_le_two_pow)).imp_of_mem fun {r q} hr hq hlt => ?_
    obtain ⟨k, k1, k2, rfl, k3⟩ := spl_lots hr
    obtain ⟨j, j1, j2, rfl, j3⟩ := spl_lots hq
    have p1 : ((k : Nat) : Int) < 2 ^ (D.length - 1) := by rw [pow_nat]; omega
    have p2 : ((j : Nat) : Int) < 2 ^ (D.length - 1) := by rw [pow_nat]; omega
    have hlt' : (k : Int) < (j : Int) := hlt
    exact lots_ne n1 (show (1 : Int) ≤ (k : Int) by omega) p1 (show (1 : Int) ≤ (j : Int) by omega) p2 (show (k : Int) ≠ (j : Int) by omega)
theorem good_nonneg {n : Nat} {e : Nat → Nat → Int} (h : GoodE n e) {x y : Nat} (hx : x < n) (hy : y < n) : 0 ≤ e x y := by
  obtain ⟨h1, h2, h3⟩ := h
  have a := h3 x hx x hx y hy
  rw [h2 x hx, h1 y hy x hx] at a
  omega
end Go.Proofs.YtnalcgcdohlfiaaGreatDoor
namespace Go.Proofs.YtnalcgcdohlfiaaGreatDoor
open Go.RowKit

/-- the four-point condition -/
def FourE (n : Nat) (e : Nat → Nat → Int) : Prop := ∀ x, x < n → ∀ y, y < n → ∀ z, z < n → ∀ w, w < n → e x y + e z w ≤ max (e x z + e y w) (e x w + e y z)
/-- s isolates at most l -/
def UpE (n : Nat) (e : Nat → Nat → Int) (s : Nat → Bool) (l : Int) : Prop :=
  ∃ x, x < n ∧ ∃ y, y < n ∧ ∃ z, z < n ∧ ∃ w, w < n ∧ s x = s y ∧ s z = s w ∧ s x ≠ s z ∧ e x z + e y w ≤ e x y + e z w + 2 * l ∧ e x w + e y z ≤ e x y + e z w + 2 * l
/-- how t lies to four points: the three sums less what is taken away -/
theorem quart {e : Nat → Nat → Int} {t : Nat → Bool} {m : Int} (x y z w : Nat) :
    let S := sub1 t m e
    (S x y + S z w = e x y + e z w ∧ S x z + S y w = e x z + e y w ∧ S x w + S y z = e x w + e y z) ∨
    (S x y + S z w = e x y + e z w - m ∧ S x z + S y w = e x z + e y w - m ∧ S x w + S y z = e x w + e y z - m) ∨
    (t x = t y ∧ t z = t w ∧ t x ≠ t z ∧ S x y + S z w = e x y + e z w ∧ S x z + S y w = e x z + e y w - 2 * m ∧ S x w + S y z = e x w + e y z - 2 * m) ∨
    (t x = t z ∧ t y = t w ∧ t x ≠ t y ∧ S x y + S z w = e x y + e z w - 2 * m ∧ S x z + S y w = e x z + e y w ∧ S x w + S y z = e x w + e y z - 2 * m) ∨
    (t x = t w ∧ t y = t z ∧ t x ≠ t y ∧ S x y + S z w = e x y + e z w - 2 * m ∧ S x z + S y w = e x z + e y w - 2 * m ∧ S x w + S y z = e x w + e y z) := by
  intro S
  show _ ∨ _
  simp only [S, sub1]
  cases t x <;> cases t y <;> cases t z <;> cases t w <;> simp <;> omega
theorem four_step {n : Nat} {e : Nat → Nat → Int} (hG : GoodE n e) (h4 : FourE n e) {t : Nat → Bool} {m : Int} (ht : IdxE n e t m) (hm : 0 < m) : FourE n (sub1 t m e) := by
  intro x hx y hy z hz w hw
  have q := h4 x hx y hy z hz w hw
  have s1 := hG.1 z hz y hy
  have s2 := hG.1 w hw y hy
  have s3 := hG.1 w hw z hz
  rcases quart (e := e) (t := t) (m := m) x y z w with ⟨a, b, c⟩ | ⟨a, b, c⟩ | ⟨k1, k2, k3, a, b, c⟩ | ⟨k1, k2, k3, a, b, c⟩ | ⟨k1, k2, k3, a, b, c⟩
  · omega
  · omega
  · have := ht x hx y hy z hz w hw k1 k2 k3
    omega
  · have := ht x hx z hz y hy w hw k1 k2 k3
    omega
  · have := ht x hx w hw y hy z hz k1 k2 k3
    omega
theorem key_five {n : Nat} {e : Nat → Nat → Int} (hG : GoodE n e) {s t : Nat → Bool} {l m : Int} (hs : IdxE n e s l) (ht : IdxE n e t m) (hne : NeE n s t) {x y z w : Nat} (hx : x < n) (hy : y < n) (hz : z < n) (hw : w < n)
    (h1 : s x = s y) (h2 : s z = s w) (h3 : s x ≠ s z) (a : t x = t y) (b : t z = t w) (c : t x ≠ t z) : e x y + e z w + 2 * l + 2 * m ≤ max (e x z + e y w) (e x w + e y z) := by
  obtain ⟨hsym, _, _⟩ := hG
  obtain ⟨p, hp, hpp⟩ := hne x hx
  rcases hpp with ⟨k1, k2⟩ | ⟨k1, k2⟩
  · have k3 : t p = t z := bool3 (Ne.symm c) k2
    have i1 := hs x hx p hp z hz w hw k1.symm h2 h3
    have i2 := hs y hy p hp z hz w hw (by rw [← h1, k1]) h2 (by rw [← h1]; exact h3)
    have i3 := ht x hx y hy z hz p hp a k3.symm c
    have i4 := ht x hx y hy w hw p hp a (by rw [k3, b]) (by rw [← b]; exact c)
    rw [hsym p hp w hw, hsym p hp z hz] at i1 i2
    exact five i1 i2 i3 i4
  · have k3 : s p = s z := bool3 (Ne.symm h3) k1
    have i1 := ht x hx p hp z hz w hw k2.symm b c
    have i2 := ht y hy p hp z hz w hw (by rw [← a, k2]) b (by rw [← a]; exact c)
    have i3 := hs x hx y hy z hz p hp h1 k3.symm h3
    have i4 := hs x hx y hy w hw p hp h1 (by rw [k3, h2]) (by rw [← h2]; exact h3)
    rw [hsym p hp w hw, hsym p hp z hz] at i1 i2
    have := five i1 i2 i3 i4
    omega
theorem up_step {n : Nat} {e : Nat → Nat → Int} (hG : GoodE n e) {s t : Nat → Bool} {l m : Int} (hu : UpE n e s l) (hs : IdxE n e s l) (ht : IdxE n e t m) (hl : 0 < l) (hm : 0 < m) (hne : NeE n s t) : UpE n (sub1 t m e) s l := by
  obtain ⟨x, hx, y, hy, z, hz, w, hw, h1, h2, h3, u1, u2⟩ := hu
  refine ⟨x, hx, y, hy, z, hz, w, hw, h1, h2, h3, ?_⟩
  have s1 := hG.1 z hz y hy
  have s2 := hG.1 w hw y hy
  have s3 := hG.1 w hw z hz
  rcases quart (e := e) (t := t) (m := m) x y z w with ⟨a, b, c⟩ | ⟨a, b, c⟩ | ⟨k1, k2, k3, a, b, c⟩ | ⟨k1, k2, k3, a, b, c⟩ | ⟨k1, k2, k3, a, b, c⟩
  · omega
  · omega
  · have := key_five hG hs ht hne hx hy hz hw h1 h2 h3 k1 k2 k3
    omega
  · have := ht x hx z hz y hy w hw k1 k2 k3
    omega
  · have := ht x hx w hw y hy z hz k1 k2 k3
    omega
theorem up_zero {n : Nat} {e : Nat → Nat → Int} (hG : GoodE n e) {s t : Nat → Bool} {m : Int} (hu : UpE n e s 0) (ht : IdxE n e t m) (hm : 0 < m) : UpE n (sub1 t m e) s 0 := by
  obtain ⟨x, hx, y, hy, z, hz, w, hw, h1, h2, h3, u1, u2⟩ := hu
  refine ⟨x, hx, y, hy, z, hz, w, hw, h1, h2, h3, ?_⟩
  have s1 := hG.1 z hz y hy
  have s2 := hG.1 w hw y hy
  have s3 := hG.1 w hw z hz
  rcases quart (e := e) (t := t) (m := m) x y z w with ⟨a, b, c⟩ | ⟨a, b, c⟩ | ⟨k1, k2, k3, a, b, c⟩ | ⟨k1, k2, k3, a, b, c⟩ | ⟨k1, k2, k3, a, b, c⟩
  · omega
  · omega
  · omega
  · have := ht x hx z hz y hy w hw k1 k2 k3
    omega
  · have := ht x hx w hw y hy z hz k1 k2 k3
    omega
theorem up_self {n : Nat} {e : Nat → Nat → Int} {s : Nat → Bool} {l : Int} (hu : UpE n e s l) : UpE n (sub1 s l e) s 0 := by
  obtain ⟨x, hx, y, hy, z, hz, w, hw, h1, h2, h3, u1, u2⟩ := hu
  refine ⟨x, hx, y, hy, z, hz, w, hw, h1, h2, h3, ?_⟩
  have a1 : sub1 s l e x y = e x y := if_pos h1
  have a2 : sub1 s l e z w = e z w := if_pos h2
  have a3 : sub1 s l e x z = e x z - l := if_neg h3
  have a4 : sub1 s l e y w = e y w - l := if_neg (by rw [← h1, ← h2]; exact h3)
  have a5 : sub1 s l e x w = e x w - l := if_neg (by rw [← h2]; exact h3)
  have a6 : sub1 s l e y z = e y z - l := if_neg (by rw [← h1]; exact h3)
  rw [a1, a2, a3, a4, a5, a6]
  omega
theorem four_subL {n : Nat} : ∀ (L : List ((Nat → Bool) × Int)) (e : Nat → Nat → Int), GoodE n e → FourE n e → (∀ p ∈ L, 0 < p.2 ∧ IdxE n e p.1 p.2) → L.Pairwise (fun p q => NeE n p.1 q.1) → FourE n (subL L e)
  | [], _, _, h, _, _ => h
  | p :: L, e, h, h4, hi, hp => by
    obtain ⟨h1, h2⟩ := hi p (List.mem_cons_self ..)
    rw [List.pairwise_cons] at hp
    rw [subL]
    refine four_subL L _ (good_step h h2 h1) (four_step h h4 h2 h1) (fun q hq => ?_) hp.2
    obtain ⟨k1, k2⟩ := hi q (List.mem_cons_of_mem _ hq)
    exact ⟨k1, idx_step h k2 h2 k1 h1 (hp.1 q hq).symm⟩
theorem up_subL {n : Nat} {s : Nat → Bool} {l : Int} : ∀ (L : List ((Nat → Bool) × Int)) (e : Nat → Nat → Int), GoodE n e → (∀ p ∈ L, 0 < p.2 ∧ IdxE n e p.1 p.2) → L.Pairwise (fun p q => NeE n p.1 q.1) →
    (UpE n e s 0 ∨ (UpE n e s l ∧ (s, l) ∈ L)) → UpE n (subL L e) s 0
  | [], _, _, _, _, h => by
    rcases h with h | ⟨_, h⟩
    · exact h
    · cases h
  | p :: L, e, h, hi, hp, hu => by
    obtain ⟨h1, h2⟩ := hi p (List.mem_cons_self ..)
    rw [List.pairwise_cons] at hp
    rw [subL]
    refine up_subL (l := l) L _ (good_step h h2 h1) (fun q hq => ?_) hp.2 ?_
    · obtain ⟨k1, k2⟩ := hi q (List.mem_cons_of_mem _ hq)
      exact ⟨k1, idx_step h k2 h2 k1 h1 (hp.1 q hq).symm⟩
    · rcases hu with hu | ⟨hu, hm⟩
      · exact .inl (up_zero h hu h2 h1)
      · rcases List.mem_cons.1 hm with e1 | hm
        · subst e1; exact .inl (up_self hu)
        · obtain ⟨k1, k2⟩ := hi _ (List.mem_cons_of_mem _ hm)
          exact .inr ⟨up_step h hu k2 h2 k1 h1 (hp.1 _ hm).symm, hm⟩
/-- a point farthest from r -/
theorem farthest (f : Nat → Int) : ∀ n : Nat, 0 < n → ∃ x, x < n ∧ ∀ y, y < n → f y ≤ f x
  | 1, _ => ⟨0, by omega, fun y hy => by have : y = 0 := by omega
                                         subst this; omega⟩
  | n + 2, _ => by
    obtain ⟨x, hx, h⟩ := farthest f (n + 1) (by omega)
    by_cases q : f x ≤ f (n + 1)
    · refine ⟨n + 1, by omega, fun y hy => ?_⟩
      by_cases e : y = n + 1
      · subst e; omega
      · have := h y (by omega); omega
    · refine ⟨x, by omega, fun y hy => ?_⟩
      by_cases e : y = n + 1
      · subst e; omega
      · exact h y (by omega)
/-- the class of x: what its split's bound says -/
theorem class_up {n : Nat} {e : Nat → Nat → Int} (hG : GoodE n e) {x : Nat} (hx : x < n) (hu : UpE n e (fun z => decide (e x z = 0)) 0) : ∃ u, u < n ∧ ∃ v, v < n ∧ 0 < e x u ∧ 0 < e x v ∧ e x u + e x v ≤ e u v := by
  obtain ⟨hsym, hz0, htri⟩ := hG
  have nn : ∀ p, p < n → ∀ q, q < n → 0 ≤ e p q := fun p hp q hq => good_nonneg ⟨hsym, hz0, htri⟩ hp hq
  obtain ⟨a, ha, b, hb, c, hc, d, hd, h1, h2, h3, u1, u2⟩ := hu
  have g : ∀ p, p < n → ∀ q, q < n → e x p = 0 → e p q = e x q := fun p hp q hq h => by
    have a1 := htri x hx q hq p hp
    have a2 := htri p hp q hq x hx
    have a3 := hsym p hp x hx
    omega
  simp only [decide_eq_decide] at h1 h2
  by_cases k : e x a = 0
  · have kb := h1.1 k
    have kc : ¬ e x c = 0 := fun q => h3 (by show decide (e x a = 0) = decide (e x c = 0); rw [decide_eq_true k, decide_eq_true q])
    have kd : ¬ e x d = 0 := fun q => kc (h2.2 q)
    have := nn x hx c hc
    have := nn x hx d hd
    have q1 := g a ha b hb k
    have q2 := g a ha c hc k
    have q3 := g b hb d hd kb
    exact ⟨c, hc, d, hd, by omega, by omega, by omega⟩
  · have kb : ¬ e x b = 0 := fun q => k (h1.2 q)
    have kc : e x c = 0 := Classical.byContradiction fun q => h3 (by show decide (e x a = 0) = decide (e x c = 0); rw [decide_eq_false k, decide_eq_false q])
    have kd := h2.1 kc
    have := nn x hx a ha
    have := nn x hx b hb
    have q1 := g c hc d hd kc
    have q2 := g c hc a ha kc
    have q3 := g d hd b hb kd
    have q4 := hsym a ha c hc
    have q5 := hsym b hb d hd
    exact ⟨a, ha, b, hb, by omega, by omega, by omega⟩
/-- where each split isolates nothing, a tree is one point -/
theorem tree_zero {n : Nat} {e : Nat → Nat → Int} (hG : GoodE n e) (h4 : FourE n e) (hu : ∀ s : Nat → Bool, (∃ a, a < n ∧ ∃ b, b < n ∧ s a ≠ s b) → UpE n e s 0) {r b : Nat} (hr : r < n) (hb : b < n) : e r b = 0 := by
  refine Classical.byContradiction fun hne => ?_
  have hpos : 0 < e r b := by have := good_nonneg hG hr hb; omega
  obtain ⟨x, hx, hmax⟩ := farthest (e r) n (by omega)
  have hrx := hmax b hb
  obtain ⟨u, hu', v, hv, p1, p2, p3⟩ := class_up hG hx (hu _ ⟨x, hx, r, hr, by
    rw [decide_eq_true (hG.2.1 x hx), decide_eq_false (by rw [hG.1 x hx r hr]; omega)]; simp⟩)
  have q := h4 r hr x hx u hu' v hv
  have m1 := hmax u hu'
  have m2 := hmax v hv
  omega
end Go.Proofs.YtnalcgcdohlfiaaGreatDoor
namespace Go.Proofs.YtnalcgcdohlfiaaGreatDoor
open Go.RowKit
theorem psL_bd {D : List (List Int)} (hf : farB D = true) {a b c e : Nat} (ha : a < D.length) (hb : b < D.length) (hc : c < D.length) (he : e < D.length) : ∀ x ∈ psL D a b c e, 0 ≤ x ∧ x ≤ 120 := by
  obtain ⟨_, _, hcells⟩ := farB_parts hf
  obtain ⟨p1, p1', -, -⟩ := hcells a ha b hb
  obtain ⟨p2, p2', -, -⟩ := hcells c hc e he
  obtain ⟨p3, p3', -, -⟩ := hcells a ha c hc
  obtain ⟨p4, p4', -, -⟩ := hcells b hb e he
  obtain ⟨p5, p5', -, -⟩ := hcells a ha e he
  obtain ⟨p6, p6', -, -⟩ := hcells b hb c hc
  intro x hx
  unfold psL at hx
  simp only [List.mem_cons, List.not_mem_nil, or_false] at hx
  rcases hx with rfl | rfl | rfl <;> omega
/-- by how much the two greatest sums differ -/
def gapI (D : List (List Int)) (a b c e : Nat) : Int := ix (srt (psL D a b c e)) 2 - ix (srt (psL D a b c e)) 1
def wg1 (D : List (List Int)) (a b c : Nat) : Nat → Nat → Int → Int := itR (fun e s => max s (gapI D a b c e))
def wg2 (D : List (List Int)) (a b : Nat) : Nat → Nat → Int → Int := itR (fun c s => wg1 D a b c D.length 0 s)
def wg3 (D : List (List Int)) (a : Nat) : Nat → Nat → Int → Int := itR (fun b s => wg2 D a b D.length 0 s)
def wgI (D : List (List Int)) : Int := itR (fun a s => wg3 D a D.length 0 s) D.length 0 0
theorem itR_up {f : Nat → Int → Int} {S : Nat → Int → Prop} (n : Nat) (s : Int) (hf : ∀ k, k < n → ∀ s, s ≤ f k s ∧ ∀ x, S k x → x ≤ f k s) : s ≤ itR f n 0 s ∧ ∀ x, (∃ k, k < n ∧ S k x) → x ≤ itR f n 0 s := by
  have := itR_inv (f := f) (fun j (t : Int) => s ≤ t ∧ ∀ x, (∃ k, k < j ∧ S k x) → x ≤ t) n 0 s ⟨Int.le_refl _, fun x ⟨k, hk, _⟩ => absurd hk (by omega)⟩ (fun j t _ hj h => by
    obtain ⟨g1, g2⟩ := hf j (by omega) t
    refine ⟨by omega, fun x ⟨k, hk, hx⟩ => ?_⟩
    by_cases e : k = j
    · subst e; exact g2 x hx
    · have := h.2 x ⟨k, by omega, hx⟩; omega)
  simpa using this
theorem wgI_up (D : List (List Int)) {a b c e : Nat} (ha : a < D.length) (hb : b < D.length) (hc : c < D.length) (he : e < D.length) : gapI D a b c e ≤ wgI D := by
  have h1 : ∀ a b c s, s ≤ wg1 D a b c D.length 0 s ∧ ∀ x, (∃ e, e < D.length ∧ x = gapI D a b c e) → x ≤ wg1 D a b c D.length 0 s := fun a b c s =>
    itR_up (S := fun e x => x = gapI D a b c e) _ _ fun e _ s => ⟨by show s ≤ max s _; omega, fun x hx => by show x ≤ max s _; omega⟩
  have h2 : ∀ a b s, s ≤ wg2 D a b D.length 0 s ∧ ∀ x, (∃ c, c < D.length ∧ ∃ e, e < D.length ∧ x = gapI D a b c e) → x ≤ wg2 D a b D.length 0 s := fun a b s =>
    itR_up (S := fun c x => ∃ e, e < D.length ∧ x = gapI D a b c e) _ _ fun c _ s => h1 a b c s
  have h3 : ∀ a s, s ≤ wg3 D a D.length 0 s ∧ ∀ x, (∃ b, b < D.length ∧ ∃ c, c < D.length ∧ ∃ e, e < D.length ∧ x = gapI D a b c e) → x ≤ wg3 D a D.length 0 s := fun a s =>
    itR_up (S := fun b x => ∃ c, c < D.length ∧ ∃ e, e < D.length ∧ x = gapI D a b c e) _ _ fun b _ s => h2 a b s
  exact (itR_up (S := fun a x => ∃ b, b < D.length ∧ ∃ c, c < D.length ∧ ∃ e, e < D.length ∧ x = gapI D a b c e) _ _ fun a _ s => h3 a s).2 _ ⟨a, ha, b, hb, c, hc, e, he, rfl⟩
theorem gapI_bd {D : List (List Int)} (hf : farB D = true) {a b c e : Nat} (ha : a < D.length) (hb : b < D.length) (hc : c < D.length) (he : e < D.length) : 0 ≤ gapI D a b c e ∧ gapI D a b c e ≤ 240 := by
  have h1 := srt_bd (xs := psL D a b c e) rfl (psL_bd hf ha hb hc he)
  have h2 := srt3 (at2 D a b + at2 D c e) (at2 D a c + at2 D b e) (at2 D a e + at2 D b c)
  have h3 : ix (srt (psL D a b c e)) 1 ≤ ix (srt (psL D a b c e)) 2 := h2.2.1
  unfold gapI
  omega
/-- a space lies in a tree -/
def treeB (D : List (List Int)) : Bool := spB D && decide (wgI D = 0)
theorem tree_four {D : List (List Int)} (h : treeB D = true) : FourE D.length (at2 D) := by
  unfold treeB at h
  simp only [Bool.and_eq_true, decide_eq_true_eq] at h
  intro x hx y hy z hz w hw
  have h1 := wgI_up D hx hy hz hw
  rw [h.2] at h1
  have h2 := srt3 (at2 D x y + at2 D z w) (at2 D x z + at2 D y w) (at2 D x w + at2 D y z)
  obtain ⟨q1, q2, q3, q4, q5⟩ := h2
  have h3 : ix (srt [at2 D x y + at2 D z w, at2 D x z + at2 D y w, at2 D x w + at2 D y z]) 2 - ix (srt [at2 D x y + at2 D z w, at2 D x z + at2 D y w, at2 D x w + at2 D y z]) 1 ≤ 0 := h1
  omega
set_option maxRecDepth 100000 in
set_option maxHeartbeats 2000000 in
theorem gapOf_any (A : Option Addr) (cp : Nat) (D : List (List Int)) (a b c e : Nat) (w : World) (h : Mat w A cp D) (hf : farB D = true) (ha : a < D.length) (hb : b < D.length) (hc : c < D.length) (he : e < D.length) :
    Calls Tryz.prog 98 #[.slice A D.length cp, .int .i64 a, .int .i64 b, .int .i64 c, .int .i64 e] w fun e' w' => e' = .returned (.int .i64 (gapI D a b c e)) ∧ Ext w w' := by
  have HC := Lib.hid (pairSums_any A cp D a b c e w h hf ha hb hc he)
  have hbd := psL_bd hf ha hb hc he
  have H3 := Lib.hid (show (psL D a b c e).length = 3 from rfl)
  have Hd := Lib.hid (show gapI D a b c e = ix (srt (psL D a b c e)) 2 - ix (srt (psL D a b c e)) 1 from rfl)
  obtain ⟨xs, hxs⟩ : ∃ xs, psL D a b c e = xs := ⟨_, rfl⟩
  rw [hxs] at HC hbd H3 Hd
  have HB := Lib.hid hbd
  clear h hf hbd hxs
  go_enter Tryz.func98, Tryz.ntmps98
  go_wp2_with fail
  refine HC.out.mono ?_
  rintro e1 w1 ⟨v, rfl, hL, hF, hx1⟩
  obtain ⟨blk, c1, cs, rfl, hge, hblk, hcs⟩ := leaf_three hL hF H3.out
  have hx : Ext w w1 := hx1
  have HL := Lib.hid hL
  clear hL hF hx1
  go_wp2_with fail
  refine (sort3_any blk c1 cs xs w1 H3.out hblk hcs).mono ?_
  rintro e2 w2 ⟨rfl, hc1, hc2, hO⟩
  have hbb := srt_bd H3.out HB.out
  obtain ⟨⟨b1, b1'⟩, ⟨b2, b2'⟩⟩ := hbb
  have hx2 := Lib.hid (hO w hx hge)
  clear hO hblk hcs
  go_wp2
  go_quiet (fail)
  go_wp2
  go_ret
  exact ⟨ret_int Hd.out.symm, hx2.out.drewN' _⟩
set_option maxRecDepth 100000 in
set_option maxHeartbeats 8000000 in
theorem worstGap_any (A : Option Addr) (cp : Nat) (D : List (List Int)) (w : World) (h : Mat w A cp D) (hf : farB D = true) :
    Calls Tryz.prog 67 #[.slice A D.length cp] w fun e w' => e = .returned (.int .i64 (wgI D)) ∧ Ext w w' := by
  have HM := Lib.hid h
  have n6 := (farB_parts hf).1.2
  have HC := Lib.hid (fun (a b c e : Nat) (ha : a < D.length) (hb : b < D.length) (hc : c < D.length) (he : e < D.length) W (k : Mat W A cp D) => gapOf_any A cp D a b c e W k hf ha hb hc he)
  have HB := Lib.hid (fun (a b c e : Nat) (ha : a < D.length) (hb : b < D.length) (hc : c < D.length) (he : e < D.length) => gapI_bd hf ha hb hc he)
  clear hf h
  go_enter Tryz.func67, Tryz.ntmps67
  go_wp2
  go_loopg [10, 3] (D.length) (fun g s10 s3 wr => ∃ (a : Nat) (t1 : Int), a + g = D.length ∧ s10 = .int .i64 a ∧ s3 = .int .i64 t1 ∧ Ext w wr ∧ 0 ≤ t1 ∧ t1 ≤ 240 ∧ Hid (itR (fun a s => wg3 D a D.length 0 s) g a t1 = wgI D))
  case atStart => exact ⟨0, _, by omega, rfl, rfl, by repeat (first | exact Ext.refl _ | assumption | apply Ext.drewN' | apply Ext.alloc' | refine Ext.trans ?_ (by assumption)), by omega, by omega, Lib.hid (rfl)⟩
  case round =>
    obtain ⟨a, t1, ha, rfl, rfl, hxa, ht1, ht1', Ha⟩ := hrel
    by_cases hina : a < D.length
    · obtain ⟨ga, rfl⟩ : ∃ g', gk = g' + 1 := ⟨gk - 1, by omega⟩
      have hina' : (a : Int) < (D.length : Nat) := by omega
      go_wp2
      go_loopg [15, 3] (D.length) (fun g s15 s3 wr => ∃ (b : Nat) (t2 : Int), b + g = D.length ∧ s15 = .int .i64 b ∧ s3 = .int .i64 t2 ∧ Ext w wr ∧ 0 ≤ t2 ∧ t2 ≤ 240 ∧ Hid (wg3 D a g b t2 = wg3 D a D.length 0 t1))
      case atStart => exact ⟨0, _, by omega, rfl, rfl, by repeat (first | exact Ext.refl _ | assumption | apply Ext.drewN' | apply Ext.alloc' | refine Ext.trans ?_ (by assumption)), by omega, by omega, Lib.hid (rfl)⟩
      case round =>
        obtain ⟨b, t2, hb, rfl, rfl, hxb, ht2, ht2', Hb⟩ := hrel
        by_cases hinb : b < D.length
        · obtain ⟨gb, rfl⟩ : ∃ g', gk = g' + 1 := ⟨gk - 1, by omega⟩
          have hinb' : (b : Int) < (D.length : Nat) := by omega
          go_wp2
          go_loopg [20, 3] (D.length) (fun g s20 s3 wr => ∃ (c : Nat) (t3 : Int), c + g = D.length ∧ s20 = .int .i64 c ∧ s3 = .int .i64 t3 ∧ Ext w wr ∧ 0 ≤ t3 ∧ t3 ≤ 240 ∧ Hid (wg2 D a b g c t3 = wg2 D a b D.length 0 t2))
          case atStart => exact ⟨0, _, by omega, rfl, rfl, by repeat (first | exact Ext.refl _ | assumption | apply Ext.drewN' | apply Ext.alloc' | refine Ext.trans ?_ (by assumption)), by omega, by omega, Lib.hid (rfl)⟩
          case round =>
            obtain ⟨c, t3, hc, rfl, rfl, hxc, ht3, ht3', Hc⟩ := hrel
            by_cases hinc : c < D.length
            · obtain ⟨gc, rfl⟩ : ∃ g', gk = g' + 1 := ⟨gk - 1, by omega⟩
              have hinc' : (c : Int) < (D.length : Nat) := by omega
              go_wp2
              go_loopg [25, 3] (D.length) (fun g s25 s3 wr => ∃ (e : Nat) (t4 : Int), e + g = D.length ∧ s25 = .int .i64 e ∧ s3 = .int .i64 t4 ∧ Ext w wr ∧ 0 ≤ t4 ∧ t4 ≤ 240 ∧ Hid (wg1 D a b c g e t4 = wg1 D a b c D.length 0 t3))
              case atStart => exact ⟨0, _, by omega, rfl, rfl, by repeat (first | exact Ext.refl _ | assumption | apply Ext.drewN' | apply Ext.alloc' | refine Ext.trans ?_ (by assumption)), by omega, by omega, Lib.hid (rfl)⟩
              case round =>
                obtain ⟨e, t4, he, rfl, rfl, hxe, ht4, ht4', He⟩ := hrel
                by_cases hine : e < D.length
                · obtain ⟨ge, rfl⟩ : ∃ g', gk = g' + 1 := ⟨gk - 1, by omega⟩
                  have hine' : (e : Int) < (D.length : Nat) := by omega
                  have Hst := Lib.hid (show wg1 D a b c (ge + 1) e t4 = wg1 D a b c ge (e + 1) (max t4 (gapI D a b c e)) from rfl)
                  obtain ⟨g0, g1⟩ := HB.out a b c e hina hinb hinc hine
                  have HCk := Lib.hid (HC.out a b c e hina hinb hinc hine)
                  obtain ⟨G, hG⟩ : ∃ G, gapI D a b c e = G := ⟨_, rfl⟩
                  rw [hG] at g0 g1 HCk Hst
                  clear hG
                  go_wp2_with fail
                  refine (HCk.out _ (HM.out.ext (by repeat (first | exact Ext.refl _ | assumption | apply Ext.drewN' | apply Ext.alloc' | refine Ext.trans ?_ (by assumption))))).mono ?_
                  rintro e1 w1 ⟨rfl, hx1⟩
                  by_cases hlt : t4 < G
                  · have HE := Lib.hid (show max t4 G = G by omega)
                    go_wp2
                    go_roundg ge
                    case measure => omega
                    case rel => exact ⟨e + 1, G, by omega, by go_num, by first | rfl | go_num, by repeat (first | exact Ext.refl _ | assumption | apply Ext.drewN' | apply Ext.alloc' | refine Ext.trans ?_ (by assumption)), by omega, by omega, Lib.hid (by rw [← He.out, Hst.out, HE.out])⟩
                  · have HE := Lib.hid (show max t4 G = t4 by omega)
                    go_wp2
                    go_roundg ge
                    case measure => omega
                    case rel => exact ⟨e + 1, t4, by omega, by go_num, by first | rfl | go_num, by repeat (first | exact Ext.refl _ | assumption | apply Ext.drewN' | apply Ext.alloc' | refine Ext.trans ?_ (by assumption)), by omega, by omega, Lib.hid (by rw [← He.out, Hst.out, HE.out])⟩
                · have hine' : ¬ (e : Int) < (D.length : Nat) := by omega
                  obtain rfl : gk = 0 := by omega
                  have HT := Lib.hid (show t4 = wg1 D a b c D.length 0 t3 from He.out)
                  clear He
                  go_wp2
                  go_roundg gc
                  case measure => omega
                  case rel => exact ⟨c + 1, t4, by omega, by go_num, by first | rfl | go_num, by repeat (first | exact Ext.refl _ | assumption | apply Ext.drewN' | apply Ext.alloc' | refine Ext.trans ?_ (by assumption)), by omega, by omega, Lib.hid (by rw [← Hc.out]; show _ = wg2 D a b gc (c + 1) (wg1 D a b c D.length 0 t3); rw [← HT.out])⟩
            · have hinc' : ¬ (c : Int) < (D.length : Nat) := by omega
              obtain rfl : gk = 0 := by omega
              have HT := Lib.hid (show t3 = wg2 D a b D.length 0 t2 from Hc.out)
              clear Hc
              go_wp2
              go_roundg gb
              case measure => omega
              case rel => exact ⟨b + 1, t3, by omega, by go_num, by first | rfl | go_num, by repeat (first | exact Ext.refl _ | assumption | apply Ext.drewN' | apply Ext.alloc' | refine Ext.trans ?_ (by assumption)), by omega, by omega, Lib.hid (by rw [← Hb.out]; show _ = wg3 D a gb (b + 1) (wg2 D a b D.length 0 t2); rw [← HT.out])⟩
        · have hinb' : ¬ (b : Int) < (D.length : Nat) := by omega
          obtain rfl : gk = 0 := by omega
          have HT := Lib.hid (show t2 = wg3 D a D.length 0 t1 from Hb.out)
          clear Hb
          go_wp2
          go_roundg ga
          case measure => omega
          case rel => exact ⟨a + 1, t2, by omega, by go_num, by first | rfl | go_num, by repeat (first | exact Ext.refl _ | assumption | apply Ext.drewN' | apply Ext.alloc' | refine Ext.trans ?_ (by assumption)), by omega, by omega, Lib.hid (by rw [← Ha.out, itR, ← HT.out])⟩
    · have hina' : ¬ (a : Int) < (D.length : Nat) := by omega
      obtain rfl : gk = 0 := by omega
      go_wp2
      go_ret
      exact ⟨ret_int (by rw [← Ha.out]; rfl), (by repeat (first | exact Ext.refl _ | assumption | apply Ext.drewN' | apply Ext.alloc' | refine Ext.trans ?_ (by assumption)))⟩
end Go.Proofs.YtnalcgcdohlfiaaGreatDoor
namespace Go.Proofs.YtnalcgcdohlfiaaGreatDoor
open Go.RowKit
def gp (x y z : Int) : Int := 2 * max (max x y) z + min (min x y) z - (x + y + z)
theorem gapI_gp (D : List (List Int)) (a b c e : Nat) : gapI D a b c e = gp (at2 D a b + at2 D c e) (at2 D a c + at2 D b e) (at2 D a e + at2 D b c) := by
  obtain ⟨q1, q2, q3, q4, q5⟩ := srt3 (at2 D a b + at2 D c e) (at2 D a c + at2 D b e) (at2 D a e + at2 D b c)
  show ix (srt [at2 D a b + at2 D c e, at2 D a c + at2 D b e, at2 D a e + at2 D b c]) 2 - ix (srt [at2 D a b + at2 D c e, at2 D a c + at2 D b e, at2 D a e + at2 D b c]) 1 = _
  unfold gp
  omega
theorem far_sym {D : List (List Int)} (hf : farB D = true) {i k : Nat} (hi : i < D.length) (hk : k < D.length) : at2 D i k = at2 D k i := ((farB_parts hf).2.2 i hi k hk).2.2.1
theorem gap_12 {D : List (List Int)} (hf : farB D = true) {a b c e : Nat} (ha : a < D.length) (hb : b < D.length) : gapI D a b c e = gapI D b a c e := by
  rw [gapI_gp, gapI_gp, far_sym hf ha hb]
  unfold gp
  omega
theorem gap_23 {D : List (List Int)} (hf : farB D = true) {a b c e : Nat} (hb : b < D.length) (hc : c < D.length) : gapI D a b c e = gapI D a c b e := by
  rw [gapI_gp, gapI_gp, far_sym hf hb hc]
  unfold gp
  omega
theorem gap_34 {D : List (List Int)} (hf : farB D = true) {a b c e : Nat} (hc : c < D.length) (he : e < D.length) : gapI D a b c e = gapI D a b e c := by
  rw [gapI_gp, gapI_gp, far_sym hf hc he]
  unfold gp
  omega
theorem far_zero {D : List (List Int)} (hf : farB D = true) {i : Nat} (hi : i < D.length) : at2 D i i = 0 := by
  have h := (farB_parts hf).2.2 i hi i hi
  exact h.2.2.2.2 rfl
theorem gap_z12 {D : List (List Int)} (hs : spB D = true) {a c e : Nat} (ha : a < D.length) (hc : c < D.length) (he : e < D.length) : gapI D a a c e = 0 := by
  have h1 := sp_tri hs c hc e he a ha
  rw [gapI_gp, far_zero (spB_far hs) ha]
  rw [far_sym (spB_far hs) hc ha] at h1
  unfold gp
  omega
theorem gap_z23 {D : List (List Int)} (hs : spB D = true) {a c e : Nat} (ha : a < D.length) (hc : c < D.length) (he : e < D.length) : gapI D a c c e = 0 := by
  rw [gap_12 (spB_far hs) ha hc, gap_23 (spB_far hs) ha hc, gap_z12 hs hc ha he]
theorem gap_z34 {D : List (List Int)} (hs : spB D = true) {a b e : Nat} (ha : a < D.length) (hb : b < D.length) (he : e < D.length) : gapI D a b e e = 0 := by
  rw [gap_23 (spB_far hs) hb he, gap_34 (spB_far hs) hb he, gap_z23 hs ha he hb]
theorem gap_le {D : List (List Int)} (hs : spB D = true) {M : Int} (h0 : 0 ≤ M) (h : ∀ a b c e, a < D.length → b < a → c < b → e < c → gapI D a b c e ≤ M) {a b c e : Nat} (ha : a < D.length) (hb : b < D.length) (hc : c < D.length) (he : e < D.length) : gapI D a b c e ≤ M := by
  have hf := spB_far hs
  have L1 : ∀ a b c e, a < D.length → b < D.length → c < b → e < c → gapI D a b c e ≤ M := by
    intro a b c e ha hb hcb hec
    rcases Nat.lt_trichotomy a b with q | q | q
    · rw [gap_12 hf ha hb]
      rcases Nat.lt_trichotomy a c with r | r | r
      · rw [gap_23 hf ha (by omega)]
        rcases Nat.lt_trichotomy a e with t | t | t
        · rw [gap_34 hf ha (by omega)]
          exact h b c e a hb hcb hec t
        · subst t; rw [gap_z34 hs hb (by omega) ha]; exact h0
        · exact h b c a e hb hcb r t
      · subst r; rw [gap_z23 hs hb ha (by omega)]; exact h0
      · exact h b a c e hb q r hec
    · subst q; rw [gap_z12 hs ha (by omega) (by omega)]; exact h0
    · exact h a b c e ha q hcb hec
  have L2 : ∀ a b c e, a < D.length → b < D.length → c < D.length → e < c → gapI D a b c e ≤ M := by
    intro a b c e ha hb hc hec
    rcases Nat.lt_trichotomy b c with q | q | q
    · rw [gap_23 hf hb hc]
      rcases Nat.lt_trichotomy b e with r | r | r
      · rw [gap_34 hf hb (by omega)]
        exact L1 a c e b ha hc hec r
      · subst r; rw [gap_z34 hs ha hc hb]; exact h0
      · exact L1 a c b e ha hc q r
    · subst q; rw [gap_z23 hs ha hb (by omega)]; exact h0
    · exact L1 a b c e ha hb q hec
  rcases Nat.lt_trichotomy c e with q | q | q
  · rw [gap_34 hf hc he]
    exact L2 a b e c ha hb he q
  · subst q; rw [gap_z34 hs ha hb hc]; exact h0
  · exact L2 a b c e ha hb hc q
/-- the worst gap, over points in descending order -/
def wh1 (D : List (List Int)) (a b c : Nat) : Nat → Nat → Int → Int := itR (fun e s => max s (gapI D a b c e))
def wh2 (D : List (List Int)) (a b : Nat) : Nat → Nat → Int → Int := itR (fun c s => wh1 D a b c c 0 s)
def wh3 (D : List (List Int)) (a : Nat) : Nat → Nat → Int → Int := itR (fun b s => wh2 D a b b 0 s)
def whI (D : List (List Int)) : Int := itR (fun a s => wh3 D a a 0 s) D.length 0 0
theorem whI_up (D : List (List Int)) : 0 ≤ whI D ∧ ∀ a b c e, a < D.length → b < a → c < b → e < c → gapI D a b c e ≤ whI D := by
  have h1 : ∀ a b c s, s ≤ wh1 D a b c c 0 s ∧ ∀ x, (∃ e, e < c ∧ x = gapI D a b c e) → x ≤ wh1 D a b c c 0 s := fun a b c s =>
    itR_up (S := fun e x => x = gapI D a b c e) _ _ fun e _ s => ⟨by show s ≤ max s _; omega, fun x hx => by show x ≤ max s _; omega⟩
  have h2 : ∀ a b s, s ≤ wh2 D a b b 0 s ∧ ∀ x, (∃ c, c < b ∧ ∃ e, e < c ∧ x = gapI D a b c e) → x ≤ wh2 D a b b 0 s := fun a b s =>
    itR_up (S := fun c x => ∃ e, e < c ∧ x = gapI D a b c e) _ _ fun c _ s => h1 a b c s
  have h3 : ∀ a s, s ≤ wh3 D a a 0 s ∧ ∀ x, (∃ b, b < a ∧ ∃ c, c < b ∧ ∃ e, e < c ∧ x = gapI D a b c e) → x ≤ wh3 D a a 0 s := fun a s =>
    itR_up (S := fun b x => ∃ c, c < b ∧ ∃ e, e < c ∧ x = gapI D a b c e) _ _ fun b _ s => h2 a b s
  have h4 := itR_up (f := fun a s => wh3 D a a 0 s) (S := fun a x => ∃ b, b < a ∧ ∃ c, c < b ∧ ∃ e, e < c ∧ x = gapI D a b c e) D.length 0 fun a _ s => h3 a s
  exact ⟨h4.1, fun a b c e ha hb hc he => h4.2 _ ⟨a, ha, b, hb, c, hc, e, he, rfl⟩⟩
theorem itR_bd {f : Nat → Int → Int} {M : Int} (n : Nat) (s : Int) (hs : s ≤ M) (hf : ∀ k, k < n → ∀ s, s ≤ M → f k s ≤ M) : itR f n 0 s ≤ M := by
  have := itR_inv (f := f) (fun _ (t : Int) => t ≤ M) n 0 s hs (fun j t _ hj h => hf j (by omega) t h)
  exact this
theorem wgI_le {D : List (List Int)} {M : Int} (h0 : 0 ≤ M) (h : ∀ a b c e, a < D.length → b < D.length → c < D.length → e < D.length → gapI D a b c e ≤ M) : wgI D ≤ M := by
  refine itR_bd _ _ h0 fun a ha s hs => itR_bd _ _ hs fun b hb s hs => itR_bd _ _ hs fun c hc s hs => itR_bd _ _ hs fun e he s hs => ?_
  have := h a b c e ha hb hc he
  show max s _ ≤ M
  omega
theorem whI_le {D : List (List Int)} {M : Int} (h0 : 0 ≤ M) (h : ∀ a b c e, a < D.length → b < D.length → c < D.length → e < D.length → gapI D a b c e ≤ M) : whI D ≤ M := by
  refine itR_bd _ _ h0 fun a ha s hs => itR_bd _ _ hs fun b hb s hs => itR_bd _ _ hs fun c hc s hs => itR_bd _ _ hs fun e he s hs => ?_
  have := h a b c e ha (by omega) (by omega) (by omega)
  show max s _ ≤ M
  omega
theorem wgI_pos (D : List (List Int)) : 0 ≤ wgI D := by
  have h := itR_up (f := fun a s => wg3 D a D.length 0 s) (S := fun _ _ => False) D.length 0 fun a _ s => ⟨(itR_up (f := fun b s => wg2 D a b D.length 0 s) (S := fun _ _ => False) D.length s fun b _ s => ⟨(itR_up (f := fun c s => wg1 D a b c D.length 0 s) (S := fun _ _ => False) D.length s fun c _ s => ⟨(itR_up (f := fun e s => max s (gapI D a b c e)) (S := fun _ _ => False) D.length s fun e _ s => ⟨by show s ≤ max s _; omega, fun _ h => h.elim⟩).1, fun _ h => h.elim⟩).1, fun _ h => h.elim⟩).1, fun _ h => h.elim⟩
  exact h.1
/-- both are the same -/
theorem wg_same {D : List (List Int)} (hs : spB D = true) : whI D = wgI D := by
  obtain ⟨h0, h1⟩ := whI_up D
  have ha : wgI D ≤ whI D := wgI_le h0 fun a b c e ha hb hc he => gap_le hs h0 h1 ha hb hc he
  have hb : whI D ≤ wgI D := whI_le (wgI_pos D) fun a b c e ha hb hc he => wgI_up D ha hb hc he
  omega
theorem gap_60 {D : List (List Int)} (hs : spB D = true) {a b c e : Nat} (ha : a < D.length) (hb : b < D.length) (hc : c < D.length) (he : e < D.length) : gapI D a b c e ≤ 60 := by
  have hf := spB_far hs
  have bd : ∀ i, i < D.length → ∀ k, k < D.length → 0 ≤ at2 D i k ∧ at2 D i k ≤ 60 := fun i hi k hk => ⟨((farB_parts hf).2.2 i hi k hk).1, ((farB_parts hf).2.2 i hi k hk).2.1⟩
  have t := sp_tri hs
  have s := @far_sym D hf
  have b1 := bd a ha b hb
  have b2 := bd a ha c hc
  have b3 := bd a ha e he
  have b4 := bd b hb c hc
  have b5 := bd b hb e he
  have b6 := bd c hc e he
  have t1 := t a ha b hb c hc
  have t2 := t a ha b hb e he
  have t3 := t c hc e he a ha
  have t4 := t c hc e he b hb
  have t5 := t a ha c hc b hb
  have t6 := t a ha c hc e he
  have t7 := t b hb e he a ha
  have t8 := t b hb e he c hc
  have t9 := t a ha e he b hb
  have t10 := t a ha e he c hc
  have t11 := t b hb c hc a ha
  have t12 := t b hb c hc e he
  rw [s hc hb] at t1
  rw [s he hb] at t2
  rw [s hc ha] at t3
  rw [s hc hb] at t4
  rw [s he hc] at t6
  rw [s hb ha] at t7
  rw [s hb ha] at t11
  rw [s he hc] at t12
  rw [gapI_gp]
  unfold gp
  omega
theorem wgI_60 {D : List (List Int)} (hs : spB D = true) : wgI D ≤ 60 := wgI_le (by omega) fun _ _ _ _ ha hb hc he => gap_60 hs ha hb hc he
end Go.Proofs.YtnalcgcdohlfiaaGreatDoor
namespace Go.Proofs.YtnalcgcdohlfiaaGreatDoor
open Go.RowKit Go.Sort
theorem strict_ext : ∀ (xs ys : List Int), xs.Pairwise (· < ·) → ys.Pairwise (· < ·) → (∀ x, x ∈ xs ↔ x ∈ ys) → xs = ys
  | [], [], _, _, _ => rfl
  | [], y :: ys, _, _, h => by have := (h y).2 (List.mem_cons_self); cases this
  | x :: xs, [], _, _, h => by have := (h x).1 (List.mem_cons_self); cases this
  | x :: xs, y :: ys, hx, hy, h => by
    rw [List.pairwise_cons] at hx hy
    have e : x = y := by
      have h1 := (h x).1 (List.mem_cons_self)
      have h2 := (h y).2 (List.mem_cons_self)
      rcases List.mem_cons.1 h1 with q | q
      · exact q
      · rcases List.mem_cons.1 h2 with r | r
        · exact r.symm
        · have := hy.1 x q; have := hx.1 y r; omega
    subst e
    rw [strict_ext xs ys hx.2 hy.2 fun z => ?_]
    constructor
    · intro hz
      rcases List.mem_cons.1 ((h z).1 (List.mem_cons_of_mem _ hz)) with q | q
      · have := hx.1 z hz; omega
      · exact q
    · intro hz
      rcases List.mem_cons.1 ((h z).2 (List.mem_cons_of_mem _ hz)) with q | q
      · have := hy.1 z hz; omega
      · exact q
theorem compact_up {zs : List Int} (hs : ∀ j k, j < k → k < zs.length → zs.toArray[j]! ≤ zs.toArray[k]!) : ∀ m, m ≤ zs.length → (Lib.compactUpTo zs.toArray m).Pairwise (· < ·) ∧ (∀ x, x ∈ Lib.compactUpTo zs.toArray m ↔ ∃ j, j < m ∧ zs.toArray[j]! = x) := by
  intro m
  induction m with
  | zero => intro _; exact ⟨by simp [Lib.compactUpTo], fun x => ⟨fun h => by simp [Lib.compactUpTo] at h, fun ⟨j, hj, _⟩ => absurd hj (by omega)⟩⟩
  | succ m ih =>
    intro hm
    obtain ⟨h1, h2⟩ := ih (by omega)
    rw [Lib.compactUpTo_succ]
    cases hk : Lib.keeps zs.toArray m with
    | true =>
      rw [if_pos rfl]
      unfold Lib.keeps at hk
      rw [decide_eq_true_eq] at hk
      refine ⟨List.pairwise_append.2 ⟨h1, List.pairwise_singleton _ _, fun a ha b hb => ?_⟩, fun x => ?_⟩
      · rw [List.mem_singleton.1 hb]
        obtain ⟨j, hj, rfl⟩ := (h2 a).1 ha
        have g1 := hs j m hj (by omega)
        rcases hk with q | q
        · omega
        · by_cases r : j = m - 1
          · subst r; omega
          · have g2 := hs j (m - 1) (by omega) (by omega)
            have g3 := hs (m - 1) m (by omega) (by omega)
            omega
      · rw [List.mem_append, h2 x, List.mem_singleton]
        constructor
        · rintro (⟨j, hj, e⟩ | e)
          · exact ⟨j, by omega, e⟩
          · exact ⟨m, by omega, e.symm⟩
        · rintro ⟨j, hj, e⟩
          by_cases q : j = m
          · subst q; exact Or.inr e.symm
          · exact Or.inl ⟨j, by omega, e⟩
    | false =>
      rw [if_neg (by simp), List.append_nil]
      unfold Lib.keeps at hk
      rw [decide_eq_false_iff_not] at hk
      refine ⟨h1, fun x => ?_⟩
      rw [h2 x]
      constructor
      · rintro ⟨j, hj, e⟩; exact ⟨j, by omega, e⟩
      · rintro ⟨j, hj, e⟩
        by_cases q : j = m
        · subst q
          have hm0 : j ≠ 0 := fun q => hk (Or.inl q)
          have he : zs.toArray[j]! = zs.toArray[j - 1]! := Decidable.byContradiction fun q => hk (Or.inr q)
          exact ⟨j - 1, by omega, by rw [← he]; exact e⟩
        · exact ⟨j, by omega, e⟩
theorem get_ix {zs : List Int} {j : Nat} (h : j < zs.length) : zs.toArray[j]! = ix zs j := by
  rw [ix_of h]
  simp [h]
theorem compact_srt (xs : List Int) : (Lib.compact (srt xs)).Pairwise (· < ·) ∧ ∀ x, x ∈ Lib.compact (srt xs) ↔ x ∈ xs := by
  have hp := List.pairwise_mergeSort (le := fun x y : Int => decide (x ≤ y)) (fun a b c => by simp only [decide_eq_true_eq]; omega) (fun a b => by simp only [Bool.or_eq_true, decide_eq_true_eq]; omega) xs
  change (srt xs).Pairwise _ at hp
  have hs : ∀ j k, j < k → k < (srt xs).length → (srt xs).toArray[j]! ≤ (srt xs).toArray[k]! := by
    intro j k hjk hk
    have := List.pairwise_iff_getElem.1 hp j k (by omega) hk hjk
    rw [decide_eq_true_eq] at this
    rw [get_ix hk, get_ix (by omega), ix_of hk, ix_of (by omega)]
    exact this
  obtain ⟨h1, h2⟩ := compact_up hs _ (Nat.le_refl _)
  refine ⟨h1, fun x => ?_⟩
  show x ∈ Lib.compactUpTo _ _ ↔ _
  rw [h2 x, ← srt_mem]
  constructor
  · rintro ⟨j, hj, rfl⟩
    rw [get_ix hj, ix_of hj]
    exact List.getElem_mem _
  · intro h
    obtain ⟨j, hj, e⟩ := List.getElem_of_mem h
    exact ⟨j, hj, by rw [get_ix hj, ix_of hj]; exact e⟩
/-- the numbers above the diagonal of the first n rows -/
def upN (E : List (List Int)) : Nat → List Int
  | 0 => []
  | i + 1 => upN E i ++ (row E i).drop (i + 1)
theorem mem_upN {E : List (List Int)} {x : Int} : ∀ n, x ∈ upN E n ↔ ∃ i, i < n ∧ ∃ k, i < k ∧ k < (row E i).length ∧ at2 E i k = x
  | 0 => ⟨fun h => (by cases h), fun ⟨i, hi, _⟩ => absurd hi (by omega)⟩
  | n + 1 => by
    show x ∈ upN E n ++ _ ↔ _
    rw [List.mem_append, mem_upN n]
    constructor
    · rintro (⟨i, hi, h⟩ | h)
      · exact ⟨i, by omega, h⟩
      · obtain ⟨j, hj, e⟩ := List.getElem_of_mem h
        rw [List.length_drop] at hj
        refine ⟨n, by omega, n + 1 + j, by omega, by omega, ?_⟩
        rw [List.getElem_drop] at e
        show ix (row E n) _ = x
        rw [ix_of (by omega)]
        exact e
    · rintro ⟨i, hi, k, h1, h2, h3⟩
      by_cases q : i = n
      · subst q
        right
        have e : ((row E i).drop (i + 1))[k - (i + 1)]'(by rw [List.length_drop]; omega) = x := by
          rw [List.getElem_drop]
          have h4 : ix (row E i) k = x := h3
          rw [ix_of h2] at h4
          rw [← h4]
          congr 1
          omega
        rw [← e]
        exact List.getElem_mem _
      · exact Or.inl ⟨i, by omega, k, h1, h2, h3⟩
/-- whether a number is found below the diagonal -/
def fnd2 (E : List (List Int)) (n : Int) (k : Nat) : Nat → Nat → Bool → Bool := itR (fun j s => s || decide (at2 E k j = n))
def fnd1 (E : List (List Int)) (n : Int) : Nat → Nat → Bool → Bool := itR (fun k s => fnd2 E n k k 0 s)
def fnd (E : List (List Int)) (n : Int) : Bool := fnd1 E n E.length 0 false
theorem itR_or {f : Nat → Bool → Bool} {S : Nat → Prop} (n : Nat) (s : Bool) (hf : ∀ k, k < n → ∀ s, f k s = true ↔ s = true ∨ S k) : itR f n 0 s = true ↔ s = true ∨ ∃ k, k < n ∧ S k := by
  have := itR_inv (f := f) (fun j (t : Bool) => t = true ↔ s = true ∨ ∃ k, k < j ∧ S k) n 0 s ⟨Or.inl, fun h => by
    rcases h with q | ⟨k, hk, _⟩
    · exact q
    · omega⟩ (fun j t _ hj h => by
    show f j t = true ↔ _
    rw [hf j (by omega) t, h]
    constructor
    · rintro ((q | ⟨k, hk, hS⟩) | hS)
      · exact Or.inl q
      · exact Or.inr ⟨k, by omega, hS⟩
      · exact Or.inr ⟨j, by omega, hS⟩
    · rintro (q | ⟨k, hk, hS⟩)
      · exact Or.inl (Or.inl q)
      · by_cases e : k = j
        · subst e; exact Or.inr hS
        · exact Or.inl (Or.inr ⟨k, by omega, hS⟩))
  simpa using this
theorem fnd_iff (E : List (List Int)) (n : Int) : fnd E n = true ↔ ∃ k, k < E.length ∧ ∃ j, j < k ∧ at2 E k j = n := by
  have h2 : ∀ k s, fnd2 E n k k 0 s = true ↔ s = true ∨ ∃ j, j < k ∧ at2 E k j = n := fun k s => itR_or (S := fun j => at2 E k j = n) k s fun j _ s => by simp
  have h1 := itR_or (f := fun k s => fnd2 E n k k 0 s) (S := fun k => ∃ j, j < k ∧ at2 E k j = n) E.length false fun k _ s => h2 k s
  show itR _ _ _ _ = true ↔ _
  rw [h1]
  simp
/-- the steps up to m -/
def stpR (E : List (List Int)) : Nat → List Int
  | 0 => []
  | m + 1 => stpR E m ++ (if fnd E ((m : Int) + 1) = true then [(m : Int) + 1] else [])
theorem stpR_spec (E : List (List Int)) : ∀ m, (stpR E m).Pairwise (· < ·) ∧ ∀ x, x ∈ stpR E m ↔ (1 ≤ x ∧ x ≤ m) ∧ fnd E x = true := by
  intro m
  induction m with
  | zero => exact ⟨List.Pairwise.nil, fun x => ⟨fun h => (by cases h), fun ⟨h, _⟩ => by omega⟩⟩
  | succ m ih =>
    obtain ⟨h1, h2⟩ := ih
    by_cases q : fnd E ((m : Int) + 1) = true
    · have e : stpR E (m + 1) = stpR E m ++ [(m : Int) + 1] := by show _ ++ _ = _; rw [if_pos q]
      rw [e]
      refine ⟨List.pairwise_append.2 ⟨h1, List.pairwise_singleton _ _, fun a ha b hb => ?_⟩, fun x => ?_⟩
      · rw [List.mem_singleton.1 hb]
        have := ((h2 a).1 ha).1
        omega
      · rw [List.mem_append, h2 x, List.mem_singleton]
        constructor
        · rintro (⟨g1, g2⟩ | rfl)
          · exact ⟨by omega, g2⟩
          · exact ⟨by omega, q⟩
        · rintro ⟨g1, g2⟩
          by_cases r : x = (m : Int) + 1
          · exact Or.inr r
          · exact Or.inl ⟨by omega, g2⟩
    · have e : stpR E (m + 1) = stpR E m := by show _ ++ _ = _; rw [if_neg q, List.append_nil]
      rw [e]
      refine ⟨h1, fun x => ?_⟩
      rw [h2 x]
      constructor
      · rintro ⟨g1, g2⟩; exact ⟨by omega, g2⟩
      · rintro ⟨g1, g2⟩
        by_cases r : x = (m : Int) + 1
        · rw [r] at g2; exact absurd g2 q
        · exact ⟨by omega, g2⟩
/-- both are the same -/
theorem steps_same {E : List (List Int)} (hs : spB E = true) : Lib.compact (srt (upN E E.length)) = stpR E 60 := by
  obtain ⟨h1, h2⟩ := compact_srt (upN E E.length)
  obtain ⟨h3, h4⟩ := stpR_spec E 60
  refine strict_ext _ _ h1 h3 fun x => ?_
  obtain ⟨-, hsq, hc⟩ := farB_parts (spB_far hs)
  rw [h2 x, h4 x, mem_upN, fnd_iff]
  constructor
  · rintro ⟨i, hi, k, hik, hk, e⟩
    rw [hsq i hi] at hk
    obtain ⟨g0, g1, g2, g3⟩ := hc i hi k hk
    have : at2 E i k ≠ 0 := fun q => by have := g3.1 q; omega
    exact ⟨by omega, k, hk, i, hik, by rw [← g2]; exact e⟩
  · rintro ⟨-, k, hk, j, hj, e⟩
    obtain ⟨-, -, g2, -⟩ := hc k hk j (by omega)
    exact ⟨j, by omega, k, hj, by rw [hsq j (by omega)]; exact hk, by rw [← g2]; exact e⟩
end Go.Proofs.YtnalcgcdohlfiaaGreatDoor
