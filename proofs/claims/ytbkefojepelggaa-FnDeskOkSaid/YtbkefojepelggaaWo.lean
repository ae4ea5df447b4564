/- What is proved: impl.WithoutPoint and spec.WithoutPoint return a space without a point, in new memory; none for others. No condition. -/
import Derived.Test.YtbkefojepelggaaWp
import Derived.Test.YtbkefojepelggaaPoint
import Derived.Sort.OwnSortedInts
namespace Go.Proofs.Ytbkefojepelggaa
open Go.RowKit Go.Sort
def woOk (D : List (List Int)) (p : Int) : Bool := pointB D p && decide (2 ≤ D.length)
def woV (D : List (List Int)) (p : Nat) : List (List Int) := (D.eraseIdx p).map fun r => r.eraseIdx p
def woB (D : List (List Int)) (p : Int) : List (List Int) := if woOk D p = true then woV D p.toNat else []
theorem erase_step {T : Type} (xs : List T) (p j : Nat) (hj : j < xs.length) : (xs.take (j + 1)).eraseIdx p = if j = p then (xs.take j).eraseIdx p else (xs.take j).eraseIdx p ++ [xs[j]] := by
  rw [List.take_succ_eq_append_getElem hj]
  have hl : (xs.take j).length = j := by rw [List.length_take]; omega
  by_cases h : j < p
  · rw [if_neg (by omega), List.eraseIdx_of_length_le (by simp; omega), List.eraseIdx_of_length_le (by omega)]
  · by_cases e : j = p
    · subst e
      rw [if_pos rfl, List.eraseIdx_append_of_length_le (by omega), hl, List.eraseIdx_of_length_le (l := xs.take j) (by omega), Nat.sub_self]
      simp
    · rw [if_neg e, List.eraseIdx_append_of_lt_length (by omega)]
theorem erase_ix {xs : List Int} {p j : Nat} (hj : j < xs.length) : (xs.take (j + 1)).eraseIdx p = if j = p then (xs.take j).eraseIdx p else (xs.take j).eraseIdx p ++ [ix xs j] := by
  rw [erase_step xs p j hj, ix_of hj]
def woK (D : List (List Int)) (p i : Nat) : List (List Int) := ((D.take i).eraseIdx p).map fun r => r.eraseIdx p
theorem woK_step {D : List (List Int)} {p i : Nat} (hi : i < D.length) : woK D p (i + 1) = if i = p then woK D p i else woK D p i ++ [(row D i).eraseIdx p] := by
  unfold woK
  rw [erase_step D p i hi]
  by_cases e : i = p
  · rw [if_pos e, if_pos e]
  · rw [if_neg e, if_neg e, List.map_append, row_of hi]
    rfl
theorem woK_all (D : List (List Int)) (p : Nat) : woK D p D.length = woV D p := by
  unfold woK woV
  rw [List.take_of_length_le (Nat.le_refl _)]
theorem woK_zero (D : List (List Int)) (p : Nat) : woK D p 0 = [] := by simp [woK]
theorem woK_len (D : List (List Int)) (p i : Nat) : (woK D p i).length ≤ i := by
  unfold woK
  rw [List.length_map]
  exact Nat.le_trans (List.length_eraseIdx_le _ _) (by rw [List.length_take]; omega)
theorem grow_none (w : World) : grow w #[] = w := by simp [grow]
theorem own_cut {w : World} {base : Nat} {e : TypeId} {A : Option Addr} {n c : Nat} {xs : List Value} (h : w.ownsRow base e 1 (.slice A n c) n xs) (m : Nat) (hm : m ≤ n) (h0 : 0 < n) : w.ownsRow base e 1 (.slice A m c) m (xs.take m) := by
  obtain ⟨h1, h2⟩ := h
  rcases h2 with ⟨he, h3⟩ | ⟨g, cap, cur, e1, e2, e3, e4, e5, e6, e7⟩
  · omega
  · refine ⟨by rw [List.length_take]; omega, .inr ⟨g, cap, cur, ?_, e2, e3, by omega, e5, e6, ?_⟩⟩
    · injection e1 with a b d
      rw [a, d]
    · rw [← e7, List.take_take]
      congr 1
      omega
/-- a number taken out of a list of one's own -/
theorem delI_any {w0 W : World} {A : Option Addr} {c n p : Nat} {xs : List Int} (h : Acc w0 W 3 (.slice A n c) (xs.map (Value.int .i64))) (hn : xs.length = n) (hp : p < n) :
    Calls Try.prog 93 #[.slice A n c, .int .i64 p, .int .i64 ((p : Int) + 1)] W fun e w' => e = .returned (.slice A (n - 1) c) ∧ Acc w0 w' 3 (.slice A (n - 1) c) ((xs.eraseIdx p).map (Value.int .i64)) := by
  subst hn
  obtain ⟨hx, hown⟩ := h
  have hown0 := hown
  obtain ⟨h1, h2⟩ := hown
  rw [List.length_map] at h2
  rcases h2 with ⟨he, h3⟩ | ⟨g, cap, cur, e1, e2, e3, e4, e5, e6, e7⟩
  · omega
  · injection e1 with a b d
    subst a; subst d
    rw [Nat.mul_one] at e7
    have hH := holds_of_blockI e3 e7
    have hC := slices_Delete_int g 0 c p (p + 1) xs W hH e4 (by unfold maxLen at e5; omega) (by omega) hp
    have hcast : ((p + 1 : Nat) : Int) = (p : Int) + 1 := by omega
    rw [hcast] at hC
    have hlen : (xs.take p ++ xs.drop (p + 1) ++ List.replicate (p + 1 - p) 0).length = xs.length := by simp; omega
    refine hC.mono ?_
    rintro e w' ⟨rfl, q, rfl⟩
    have ho := ownsRow_sortedI (n := q) (os := #[]) hlen e2 e3 e4 e5 e6
    rw [grow_none] at ho
    have hg := grownBy_sortedI (w := W) (g := g) (n := q) (os := #[]) (xs.take p ++ xs.drop (p + 1) ++ List.replicate (p + 1 - p) 0).toArray
    rw [grow_none] at hg
    have hk := own_cut ho (xs.length - 1) (by omega) (by omega)
    have he : ((xs.take p ++ xs.drop (p + 1) ++ List.replicate (p + 1 - p) (0 : Int)).map (Value.int .i64)).take (xs.length - 1) = (xs.eraseIdx p).map (Value.int .i64) := by
      rw [← List.map_take, List.take_append_of_le_length (by simp; omega), List.take_of_length_le (by simp; omega), List.eraseIdx_eq_take_drop_succ]
    rw [he] at hk
    refine ⟨by rw [show p + 1 - p = 1 by omega], Below.grown hx hg hx.size (fun k hk => by injection hk with hk; omega), ?_⟩
    have hl2 : ((xs.eraseIdx p).map (Value.int .i64)).length = xs.length - 1 := by rw [List.length_map, List.length_eraseIdx, if_pos hp]
    rw [hl2]
    exact hk
set_option maxRecDepth 100000 in
set_option maxHeartbeats 4000000 in
theorem iWithoutPoint_any (A : Option Addr) (cp : Nat) (D : List (List Int)) (p : Int) (w : World) (h : Mat w A cp D) :
    Calls Try.prog 82 #[.slice A D.length cp, .int .i64 p] w (TupR w (woB D p) (woOk D p)) := by
  have hcm := h.2.1
  have hlc := h.1
  unfold maxLen at hcm
  have HM := Lib.hid h
  have HC := Lib.hid (hasPoint_any A cp D p w h)
  have HD := Lib.hid (show woB D p = if woOk D p = true then woV D p.toNat else [] from rfl)
  have HO := Lib.hid (show woOk D p = (pointB D p && decide (2 ≤ D.length)) from rfl)
  cases hb : pointB D p with
  | false =>
    have HK := Lib.hid (show woOk D p = false by rw [HO.out, hb]; rfl)
    have HF := Lib.hid (show woB D p = [] by rw [HD.out, HK.out]; rfl)
    rw [hb] at HC
    clear hb h
    go_enter Try.func82, Try.ntmps82
    go_wp2_with fail
    refine HC.out.mono ?_
    rintro e w1 ⟨rfl, m1, rfl⟩
    go_wp2
    go_ret2
    rw [HF.out, HK.out]
    exact ⟨_, rfl, AccR.nil (by repeat (first | exact Ext.refl _ | assumption | apply Ext.drewN' | apply Ext.alloc' | refine Ext.trans ?_ (by assumption)))⟩
  | true =>
  by_cases h2 : 2 ≤ D.length
  rotate_left
  · have h2' : (D.length : Int) < 2 := by omega
    have HK := Lib.hid (show woOk D p = false by rw [HO.out, decide_eq_false h2, Bool.and_false])
    have HF := Lib.hid (show woB D p = [] by rw [HD.out, HK.out]; rfl)
    rw [hb] at HC
    clear hb h
    go_enter Try.func82, Try.ntmps82
    go_wp2_with fail
    refine HC.out.mono ?_
    rintro e w1 ⟨rfl, m1, rfl⟩
    go_wp2
    go_ret2
    rw [HF.out, HK.out]
    exact ⟨_, rfl, AccR.nil (by repeat (first | exact Ext.refl _ | assumption | apply Ext.drewN' | apply Ext.alloc' | refine Ext.trans ?_ (by assumption)))⟩
  · have h2' : ¬ (D.length : Int) < 2 := by omega
    have HK := Lib.hid (show woOk D p = true by rw [HO.out, decide_eq_true h2, hb]; rfl)
    have HF := Lib.hid (show woB D p = woV D p.toNat by rw [HD.out, HK.out]; rfl)
    rw [hb] at HC
    have hp : spB D = true ∧ 0 ≤ p ∧ p < D.length := by
      unfold pointB at hb
      rw [Bool.and_eq_true] at hb
      have := of_decide_eq_true hb.2
      exact ⟨hb.1, this.1, this.2⟩
    obtain ⟨hs, p0, p1⟩ := hp
    obtain ⟨q, rfl⟩ : ∃ q : Nat, p = (q : Int) := ⟨p.toNat, by omega⟩
    rw [show ((q : Int)).toNat = q by omega] at HF
    obtain ⟨⟨hn1, hn6⟩, hsq, -⟩ := farB_parts (spB_far hs)
    obtain ⟨bk, o, rc, rb, ro, hA, hrow, hlen, hcell, hints⟩ := h.square hsq
    obtain rfl := hA (by omega)
    have HROW := Lib.hid hrow
    have HIN := Lib.hid hints
    have HSL := Lib.hid hsq
    have HST := Lib.hid (fun i (hi : i < D.length) => woK_step (p := q) hi)
    have HAL := Lib.hid (woK_all D q)
    have HZ := Lib.hid (woK_zero D q)
    have HBD := Lib.hid (woK_len D q)
    obtain ⟨n, hn⟩ : ∃ n, D.length = n := ⟨_, rfl⟩
    have HSN := Lib.hid (fun i (hi : i < n) => show (row D i).length = n by rw [HSL.out i (by omega), hn])
    rw [hn] at HC HROW HIN HST HAL hlc hn1 hn6 p1 h2'
    rw [hn]
    clear hb h hs hsq hrow hlen hcell hints hn HSL h2 HD HO p0
    have hq : q < n := by omega
    go_enter Try.func82, Try.ntmps82
    go_wp2_with fail
    refine HC.out.mono ?_
    rintro e w1 ⟨rfl, m1, rfl⟩
    go_wp2
    go_loopg [21, 6] n (fun g s21 s6 wr => ∃ (k : Nat), k + g = n ∧ s21 = .int .i64 k ∧ Hid (AccR w wr s6 (woK D q k)))
    case atStart => exact ⟨0, by omega, rfl, Lib.hid (by rw [HZ.out]; exact AccR.empty (by repeat (first | exact Ext.refl _ | assumption | apply Ext.drewN' | apply Ext.alloc' | refine Ext.trans ?_ (by assumption))))⟩
    case round =>
      obtain ⟨k, hk, rfl, HR⟩ := hrel
      have hxr := HR.out.x
      by_cases hin : k < n
      · obtain ⟨g', rfl⟩ : ∃ g', gk = g' + 1 := ⟨gk - 1, by omega⟩
        have hin' : (k : Int) < (n : Nat) := by omega
        have c1 := hxr.cell (HROW.out k hin)
        have HSTk := Lib.hid (HST.out k hin)
        have hbd := HBD.out k
        have HIk := Lib.hid (HIN.out k hin)
        have HLK := Lib.hid (HSN.out k hin)
        obtain ⟨acc, hacc⟩ : ∃ r, woK D q k = r := ⟨_, rfl⟩
        obtain ⟨r, hr⟩ : ∃ r, row D k = r := ⟨_, rfl⟩
        rw [hr] at HSTk HIk HLK
        rw [hacc] at HSTk hbd HR
        clear hacc hr
        by_cases hkq : k = q
        · have hkq' : ((k : Int) != (q : Int)) = false := by simp; omega
          have HN := Lib.hid (show woK D q (k + 1) = acc by rw [HSTk.out, if_pos hkq])
          clear hkq
          go_wp2
          go_roundg g'
          case measure => omega
          case rel => exact ⟨k + 1, by omega, by go_num, Lib.hid (by rw [HN.out]; exact HR.out)⟩
        · have hkq' : ((k : Int) != (q : Int)) = true := by simp; omega
          have HN := Lib.hid (show woK D q (k + 1) = acc ++ [r.eraseIdx q] by rw [HSTk.out, if_neg hkq])
          clear hkq
          go_wp2_with (first
            | (at_builtin; (fail_if_success (have hq := hA26)); refine wpList_ex rfl _ _ rfl (.slice (some ⟨_, 0, none⟩) 0 0) _ rfl rfl (appIn_run (w0 := wr) (ys := []) rfl Try.underlying31 infoI HLK.out (accNew (Ext.alloc _ _) (heap_alloc_new _ _) (Nat.le_refl _)) (HIk.out.ext (hxr.alloc' _)) (by simp [HLK.out]; omega)) ?_; rintro v26 W26 ⟨hA26, hB26, hS26⟩; rw [List.nil_append] at hA26; obtain ⟨Ar, cr, hv26, -⟩ := (Leaf.of_own hA26.2).1.ints; rw [HLK.out] at hv26; subst hv26)
            | (go_at_call 93; refine (delI_any hA26 HLK.out hq).mono ?_; rintro e w9 ⟨rfl, hA9⟩)
            | (at_builtin; refine wpList_ex rfl _ _ rfl _ (.slice (some ⟨_, 0, none⟩) 1 1) rfl rfl (accR_run (u := .slice Ar (n - 1) cr) rfl Try.underlying23 infoR ⟨_, 0, none⟩ 1 rfl HR.out hA9 (Ext.alloc _ _) (cell_new0 _ _ _) (by omega)) ?_; rintro v34 W34 hR34))
          go_roundg g'
          case measure => omega
          case rel => exact ⟨k + 1, by omega, by go_num, Lib.hid (by rw [HN.out]; exact hR34)⟩
      · have hin' : ¬ (k : Int) < (n : Nat) := by omega
        obtain rfl : gk = 0 := by omega
        obtain rfl : k = n := by omega
        rw [HAL.out] at HR
        have HRR := Lib.hid HR.out
        clear HR
        go_wp2
        go_ret2
        rw [HF.out, HK.out]
        exact ⟨_, rfl, HRR.out⟩
end Go.Proofs.Ytbkefojepelggaa
