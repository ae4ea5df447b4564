/- What is proved: sizes, copies, equality of desks that came in; DeskOk of both. Conditions: those of each contract. -/
import Derived.Test.YtbkefojepelggaaDk
namespace Go.Proofs.Ytbkefojepelggaa
open Go.RowKit
def szSR (L : List (List (List Int))) : Nat → Nat → Int → Int
  | 0, _, l => l
  | g + 1, i, l => if szM (nth L i) l < 0 then -1 else szSR L g (i + 1) (szM (nth L i) l)
def szS (L : List (List (List Int))) (l : Int) : Int := if l - L.length < 0 then -1 else szSR L L.length 0 (l - L.length)
theorem szM_le {D : List (List Int)} {l : Int} (h : ¬ szM D l < 0) : szM D l ≤ l ∧ ((D.length + total D : Nat) : Int) ≤ l := by
  obtain ⟨h1, h2⟩ := szM_spec (D := D) (l := l) (by omega)
  exact ⟨by rw [h2]; omega, h1⟩
theorem szSR_spec (L : List (List (List Int))) : ∀ g i l, l ≤ 1048576 → 0 ≤ szSR L g i l → ∀ j, i ≤ j → j < i + g → (((nth L j).length + total (nth L j) : Nat) : Int) ≤ 1048576
  | 0, i, l, _, _, j, h1, h2 => by omega
  | g + 1, i, l, hl, h, j, h1, h2 => by
    rw [szSR] at h
    by_cases hz : szM (nth L i) l < 0
    · rw [if_pos hz] at h; omega
    · rw [if_neg hz] at h
      obtain ⟨k1, k2⟩ := szM_le hz
      by_cases e : j = i
      · subst e; omega
      · exact szSR_spec L g (i + 1) _ (by omega) h j (by omega) (by omega)
theorem szS_spec {L : List (List (List Int))} {l : Int} (hl : l ≤ 1048576) (h : ¬ szS L l < 0) : L.length ≤ 1048576 ∧ ∀ j, j < L.length → (nth L j).length + total (nth L j) ≤ 1048576 := by
  unfold szS at h
  by_cases q : l - (L.length : Int) < 0
  · rw [if_pos q] at h; omega
  · rw [if_neg q] at h
    refine ⟨by omega, fun j hj => ?_⟩
    have := szSR_spec L L.length 0 (l - L.length) (by omega) (by omega) j (by omega) (by omega)
    omega

set_option maxHeartbeats 1000000 in
theorem szIntSSS_any (A : Option Addr) (c : Nat) (L : List (List (List Int))) (l : Int) (w : World) (h : MatS w A c L) (hl0 : 0 ≤ l) (hl1 : l ≤ 1048576) :
    Calls Try.prog 50 #[.slice A L.length c, .int .i64 l] w fun e w' => e = .returned (.int .i64 (szS L l)) ∧ ∃ m, w' = w.drewN m := by
  obtain ⟨h1, h2, _⟩ := id h
  obtain ⟨b, o, R, rc, hA, hrow, hlen, hmat⟩ := h.parts
  unfold maxLen at h2
  have Hd := Lib.hid (show szS L l = if l - L.length < 0 then -1 else szSR L L.length 0 (l - L.length) from rfl)
  by_cases hq : l - L.length < 0
  · go_enter Try.func50, Try.ntmps50
    go_wp2
    go_ret
    exact ⟨ret_int (by rw [Hd.out, if_pos hq]), 0, rfl⟩
  · have Hd2 : Hid (szS L l = szSR L L.length 0 (l - L.length)) := Lib.hid (by rw [Hd.out, if_neg hq])
    clear Hd
    go_enter Try.func50, Try.ntmps50
    go_wp2
    go_loopg [5, 1] (L.length) (fun g s5 s1 wr => ∃ (i m : Nat) (s : Int), i + g = L.length ∧ s5 = .int .i64 i ∧ s1 = .int .i64 s ∧ wr = w.drewN m ∧ s ≤ 1048576 ∧ 0 ≤ s ∧ Hid (szSR L g i s = szS L l))
    case atStart => exact ⟨0, _, _, by omega, rfl, rfl, by first | rfl | exact drewN_0 _ | exact drewN_add _ _ _, by omega, by omega, Lib.hid (Hd2.out.symm)⟩
    case round =>
      obtain ⟨i, mi, s, hi, rfl, rfl, rfl, hs1, hs0, Hi⟩ := hrel
      by_cases hini : i < L.length
      · obtain ⟨gi, rfl⟩ : ∃ g', gk = g' + 1 := ⟨gk - 1, by omega⟩
        have hini' : (i : Int) < (L.length : Nat) := by omega
        obtain rfl := hA (by omega)
        have c1 := hrow i hini
        have HC := Lib.hid (fun W (q : Mat W (R i) (rc i) (nth L i)) => szIntSS_any (R i) (rc i) (nth L i) s W q hs0 hs1)
        have HM := Lib.hid (hmat i hini)
        clear hrow hlen hmat
        have Hstep := Lib.hid (show szSR L (gi + 1) i s = if szM (nth L i) s < 0 then -1 else szSR L gi (i + 1) (szM (nth L i) s) from rfl)
        by_cases hz : szM (nth L i) s < 0
        · go_wp2_with (go_at_call 49; refine (HC.out _ (HM.out.ext (Ext.drewN _ _))).mono ?_; rintro e w' ⟨rfl, mz, rfl⟩)
          go_ret
          exact ⟨ret_int (by rw [← Hi.out, Hstep.out, if_pos (by omega)]), _, by first | rfl | exact drewN_add _ _ _⟩
        · have hle := (szM_le hz).1
          go_wp2_with (go_at_call 49; refine (HC.out _ (HM.out.ext (Ext.drewN _ _))).mono ?_; rintro e w' ⟨rfl, mz, rfl⟩)
          go_roundg gi
          case measure => omega
          case rel => exact ⟨i + 1, _, szM (nth L i) s, by omega, by go_num, by first | rfl | go_num, by first | rfl | exact drewN_0 _ | exact drewN_add _ _ _, by omega, by omega, Lib.hid (by rw [← Hi.out, Hstep.out, if_neg (by omega)])⟩
      · have hini' : ¬ (i : Int) < (L.length : Nat) := by omega
        obtain rfl : gk = 0 := by omega
        clear hrow hlen hmat
        go_wp2
        go_ret
        exact ⟨ret_int (by rw [← Hi.out]; rfl), _, rfl⟩

def szDk (D : List (List Int)) (L : List (List (List Int))) (l : Int) : Int := if szM D l < 0 then -1 else if szS L (szM D l) < 0 then -1 else szS L (szM D l)
set_option maxHeartbeats 1000000 in
theorem szDesk_any (A B : Option Addr) (c d : Nat) (D : List (List Int)) (L : List (List (List Int))) (w : World) (h1 : Mat w A c D) (h2 : MatS w B d L) :
    Calls Try.prog 21 #[.agg #[.slice A D.length c, .slice B L.length d], .int .i64 1048576] w fun e w' => e = .returned (.int .i64 (szDk D L 1048576)) ∧ Ext w w' := by
  have H1 := Lib.hid h1
  have H2 := Lib.hid h2
  have Hd := Lib.hid (show szDk D L 1048576 = if szM D 1048576 < 0 then -1 else if szS L (szM D 1048576) < 0 then -1 else szS L (szM D 1048576) from rfl)
  clear h1 h2
  go_enter Try.func21, Try.ntmps21
  go_wp2_with fail
  refine (szIntSS_any A c D 1048576 _ (H1.out.ext (by repeat (first | exact Ext.refl _ | assumption | apply Ext.drewN' | apply Ext.alloc' | refine Ext.trans ?_ (by assumption)))) (by omega) (by omega)).mono ?_
  rintro e w1 ⟨rfl, m1, rfl⟩
  by_cases hz : szM D 1048576 < 0
  · go_wp2
    go_ret
    exact ⟨ret_int (by rw [Hd.out, if_pos hz]), (by repeat (first | exact Ext.refl _ | assumption | apply Ext.drewN' | apply Ext.alloc' | refine Ext.trans ?_ (by assumption)))⟩
  · have hle := (szM_le hz).1
    go_wp2_with fail
    refine (szIntSSS_any B d L (szM D 1048576) _ (H2.out.ext (by repeat (first | exact Ext.refl _ | assumption | apply Ext.drewN' | apply Ext.alloc' | refine Ext.trans ?_ (by assumption)))) (by omega) (by omega)).mono ?_
    rintro e w2 ⟨rfl, m2, rfl⟩
    by_cases hy : szS L (szM D 1048576) < 0
    · go_wp2
      go_ret
      exact ⟨ret_int (by rw [Hd.out, if_neg (show ¬ szM D 1048576 < 0 by omega), if_pos hy]), (by repeat (first | exact Ext.refl _ | assumption | apply Ext.drewN' | apply Ext.alloc' | refine Ext.trans ?_ (by assumption)))⟩
    · go_wp2
      go_ret
      exact ⟨ret_int (by rw [Hd.out, if_neg (show ¬ szM D 1048576 < 0 by omega), if_neg (show ¬ szS L (szM D 1048576) < 0 by omega)]), (by repeat (first | exact Ext.refl _ | assumption | apply Ext.drewN' | apply Ext.alloc' | refine Ext.trans ?_ (by assumption)))⟩

/-- the blocks of numbers, of rows and of slices of rows stay -/
def KeepT (w w' : World) : Prop := ∀ (g : Nat) (cs : Array Value) (t : TypeId) (fz : Nat × Nat), w.heap[g]? = some (.cells cs t fz) → (t = 3 ∨ t = 31 ∨ t = 23) → w'.heap[g]? = w.heap[g]?
theorem KeepT.of_ext {w w' : World} (h : Ext w w') : KeepT w w' := fun _ _ _ _ hg _ => h.block (heap_lt hg)
theorem KeepT.trans {a b c : World} (h : KeepT a b) (k : KeepT b c) : KeepT a c := fun g cs t fz hg ht => (k g cs t fz ((h g cs t fz hg ht).trans hg) ht).trans (h g cs t fz hg ht)
theorem KeepT.set {w : World} {p : Addr} {cs : Array Value} {t : TypeId} {fz : Nat × Nat} (hp : w.heap[p.block]? = some (.cells cs t fz)) (ht : t ≠ 3 ∧ t ≠ 31 ∧ t ≠ 23) (u : Value) : KeepT w (w.setCell p u) := fun g cs' t' fz' hg ht' =>
  Below.heap_setCell _ _ _ _ fun e => by
    subst e
    rw [hp] at hg
    injection hg with hg; injection hg with _ hg
    subst hg
    rcases ht' with h | h | h
    · exact ht.1 h
    · exact ht.2.1 h
    · exact ht.2.2 h
theorem MatL.keepR {w w' : World} {A : Option Addr} {c : Nat} {D : List (List Int)} {V : Nat → Value} (h : MatL w A c D V) (k : ∀ (g : Nat) (cs : Array Value) (t : TypeId) (fz : Nat × Nat), w.heap[g]? = some (.cells cs t fz) → (t = 3 ∨ t = 31) → w'.heap[g]? = w.heap[g]?) : MatL w' A c D V := by
  obtain ⟨h1, h2, b, o, hA, hc⟩ := h
  refine ⟨h1, h2, b, o, fun h0 => ?_, fun i hi => ?_⟩
  · obtain ⟨e, cs, fz, hb⟩ := hA h0
    exact ⟨e, cs, fz, (k b cs _ fz hb (.inr rfl)).trans hb⟩
  · obtain ⟨e, cs, fz, hb⟩ := hA (by omega)
    refine ⟨?_, (hc i hi).2.keep fun g hg => ?_⟩
    · rw [← (hc i hi).1]; exact World.cell?_of_block (k b cs _ fz hb (.inr rfl))
    · obtain ⟨cs', hb'⟩ := (hc i hi).2.blocks g hg
      exact k g cs' _ _ hb' (.inl rfl)
theorem MatL.keepT {w w' : World} {A : Option Addr} {c : Nat} {D : List (List Int)} {V : Nat → Value} (h : MatL w A c D V) (k : KeepT w w') : MatL w' A c D V :=
  h.keepR fun g cs t fz hg ht => k g cs t fz hg (by rcases ht with h | h <;> simp [h])
/-- slices of rows of one's own -/
def MatSL (w : World) (A : Option Addr) (c : Nat) (L : List (List (List Int))) : Prop :=
  L.length ≤ c ∧ c ≤ maxLen ∧ ∃ b o, (0 < L.length → A = some ⟨b, o, none⟩ ∧ ∃ cs fz, w.heap[b]? = some (.cells cs 23 fz)) ∧ ∀ i, i < L.length → ∃ Ar cr V, w.cell? ⟨b, o + i, none⟩ = some (.slice Ar (nth L i).length cr) ∧ MatL w Ar cr (nth L i) V
theorem MatSL.mats {w : World} {A : Option Addr} {c : Nat} {L : List (List (List Int))} (h : MatSL w A c L) : MatS w A c L := by
  obtain ⟨h1, h2, b, o, hA, hc⟩ := h
  refine ⟨h1, h2, b, o, fun h0 => (hA h0).1, fun i hi => ?_⟩
  obtain ⟨Ar, cr, V, e, hM⟩ := hc i hi
  exact ⟨Ar, cr, e, hM.mat⟩
theorem MatSL.keepT {w w' : World} {A : Option Addr} {c : Nat} {L : List (List (List Int))} (h : MatSL w A c L) (k : KeepT w w') : MatSL w' A c L := by
  obtain ⟨h1, h2, b, o, hA, hc⟩ := h
  refine ⟨h1, h2, b, o, fun h0 => ?_, fun i hi => ?_⟩
  · obtain ⟨e, cs, fz, hb⟩ := hA h0
    exact ⟨e, cs, fz, (k b cs _ fz hb (.inr (.inr rfl))).trans hb⟩
  · obtain ⟨e, cs, fz, hb⟩ := hA (by omega)
    obtain ⟨Ar, cr, V, e2, hM⟩ := hc i hi
    exact ⟨Ar, cr, V, by rw [← e2]; exact World.cell?_of_block (k b cs _ fz hb (.inr (.inr rfl))), hM.keepT k⟩
/-- what a copy of slices of rows leaves -/
def FreshS (w : World) (L : List (List (List Int))) (e : Ending) (w' : World) : Prop := ∃ A c, e = .returned (.slice A L.length c) ∧ MatSL w' A c L ∧ Ext w w'

set_option maxHeartbeats 2000000 in
theorem toIntSSS_any (A : Option Addr) (c : Nat) (L : List (List (List Int))) (w : World) (h : MatS w A c L) (hz : L.length ≤ 1048576) (hr : ∀ i, i < L.length → (nth L i).length + total (nth L i) ≤ 1048576) :
    Calls Try.prog 53 #[.slice A L.length c] w (FreshS w L) := by
  obtain ⟨h1, h2, _⟩ := id h
  obtain ⟨b, o, R, rc, hA, hrow, -, hmat⟩ := h.parts
  unfold maxLen at h2
  have hmk := run_make_row' (P := Try.prog) 24 23 (.slice none 0 0) 24 Try.underlying24 infoM rfl .i64 .i64 L.length (by omega) (by omega)
  go_enter Try.func53, Try.ntmps53
  go_wp2
  clear hmk
  go_loopg [4] L.length (fun g s4 wr => ∃ (i : Nat) (V : Nat → Option Addr × Nat), i + g = L.length ∧ s4 = .int .i64 i ∧ Hid (Ext w wr ∧ wr.rowIs w.heap.size 23 L.length (fun j => if j < i then .slice (V j).1 (nth L j).length (V j).2 else .slice none 0 0) ∧ (∀ j, j < i → ∃ Z, MatL wr (V j).1 (V j).2 (nth L j) Z)))
  case atStart => exact ⟨0, fun _ => (none, 0), by omega, rfl, Lib.hid ⟨Ext.alloc _ _, (World.rowIs_made w _ _ _).congr (fun j _ => by simp), fun j hj => absurd hj (by omega)⟩⟩
  case round =>
    obtain ⟨i, V, hi, rfl, HW⟩ := hrel
    by_cases hini : i < L.length
    · obtain ⟨gi, rfl⟩ : ∃ g', gk = g' + 1 := ⟨gk - 1, by omega⟩
      have hini' : (i : Int) < (L.length : Nat) := by omega
      obtain rfl := hA (by omega)
      have c1 := HW.out.1.cell (hrow i hini)
      have hri := hr i hini
      have HC := Lib.hid (toIntSS_any (R i) (rc i) (nth L i) wr ((hmat i hini).ext HW.out.1) (by omega) (fun j hj => by have := row_le_total hj; omega))
      clear hrow hmat hr hri
      go_wp2_with (go_at_call 52; refine HC.out.mono ?_; rintro e w1 ⟨Av, cv, Zv, rfl, hv, -, -, hx1⟩; have HV := Lib.hid hv; have HX := Lib.hid hx1; clear hv hx1; have c2 := (HW.out.2.1.of_block (HX.out.block HW.out.2.1.lt)).cell hini; have c3 := (HW.out.2.1.of_block (HX.out.block HW.out.2.1.lt)).frozen i; rw [if_neg (by omega)] at c2)
      go_roundg gi
      case measure => omega
      case rel =>
        obtain ⟨hx, hrow, hold⟩ := HW.out
        have hx1 := HX.out
        have hb := hrow.of_block (hx1.block hrow.lt)
        have hkeep : ∀ {A' : Option Addr} {c' : Nat} {D' : List (List Int)} {Z : Nat → Value}, MatL w1 A' c' D' Z → MatL (w1.setCell ⟨w.heap.size, i, none⟩ (.slice Av (nth L i).length cv)) A' c' D' Z := fun hl => hl.keepR fun g cs t fz hg ht => Below.heap_setCell _ _ _ _ fun e => by
          have e : g = w.heap.size := e
          subst e
          obtain ⟨cs2, hb2, _⟩ := hb
          rw [hb2] at hg
          injection hg with hg; injection hg with _ hg
          rcases ht with h | h
          · rw [h] at hg; exact absurd hg (by decide)
          · rw [h] at hg; exact absurd hg (by decide)
        refine ⟨i + 1, fun j => if j = i then (Av, cv) else V j, by omega, by go_num, Lib.hid ⟨(hx.trans hx1).setCell' (Nat.le_refl _) _, (hb.set i _).congr (fun j _ => ?_), fun j hj => ?_⟩⟩
        · by_cases e : j = i
          · subst e; simp
          · simp only [if_neg e]
            by_cases hlt : j < i
            · rw [if_pos hlt, if_pos (by omega)]
            · rw [if_neg hlt, if_neg (by omega)]
        · by_cases e : j = i
          · subst e; simp only [if_true]; exact ⟨Zv, hkeep HV.out⟩
          · simp only [if_neg e]
            obtain ⟨Z, hZ⟩ := hold j (by omega)
            exact ⟨Z, hkeep (hZ.ext hx1)⟩
    · have hini' : ¬ (i : Int) < (L.length : Nat) := by omega
      clear hrow hmat hr
      go_wp2
      go_ret
      obtain ⟨hx, hrow, hold⟩ := HW.out
      have hiD : i = L.length := by omega
      subst hiD
      refine ⟨_, _, rfl, ⟨Nat.le_refl _, by unfold maxLen; omega, w.heap.size, 0, fun _ => ⟨rfl, ?_⟩, fun j hj => ?_⟩, hx⟩
      · obtain ⟨cs, hb, _⟩ := hrow
        exact ⟨cs, _, hb⟩
      · obtain ⟨Z, hZ⟩ := hold j hj
        exact ⟨_, _, Z, by rw [Nat.zero_add, hrow.cell hj, if_pos hj], hZ⟩

def eqS (L M : List (List (List Int))) : Bool := decide (L = M)
theorem eqS_refl (L : List (List (List Int))) : eqS L L = true := decide_eq_true rfl
theorem eqS_all (L : List (List (List Int))) : ∀ g i, allR (fun j => eqM (nth L j) (nth L j)) g i = true
  | 0, _ => rfl
  | g + 1, i => by rw [allR, eqM_refl, Bool.true_and]; exact eqS_all L g (i + 1)
set_option maxHeartbeats 1000000 in
/-- of the same -/
theorem eqIntSSS_any (A B : Option Addr) (c d : Nat) (L : List (List (List Int))) (w : World) (hx : MatS w A c L) (hy : MatS w B d L) :
    Calls Try.prog 56 #[.slice A L.length c, .slice B L.length d] w fun e w' => e = .returned (.bool true) ∧ ∃ m, w' = w.drewN m := by
  obtain ⟨h1, h2, _⟩ := id hx
  obtain ⟨k1, k2, _⟩ := id hy
  obtain ⟨b, o, R, rc, hA, hrow, -, hmat⟩ := hx.parts
  obtain ⟨b', o', R', rc', hB, hrow', -, hmat'⟩ := hy.parts
  unfold maxLen at h2 k2
  go_enter Try.func56, Try.ntmps56
  go_wp2
  go_loopg [5] (L.length) (fun g s5 wr => ∃ (i m : Nat), i + g = L.length ∧ s5 = .int .i64 i ∧ wr = w.drewN m ∧ Hid (True))
  case atStart => exact ⟨0, _, by omega, rfl, by first | rfl | exact drewN_0 _ | exact drewN_add _ _ _, Lib.hid (trivial)⟩
  case round =>
    obtain ⟨i, mi, hi, rfl, rfl, Hi⟩ := hrel
    by_cases hini : i < L.length
    · obtain ⟨gi, rfl⟩ : ∃ g', gk = g' + 1 := ⟨gk - 1, by omega⟩
      have hini' : (i : Int) < (L.length : Nat) := by omega
      obtain rfl := hA (by omega)
      obtain rfl := hB (by omega)
      have c1 := hrow i hini
      have c2 := hrow' i hini
      have i1 := hmat i hini
      have i2 := hmat' i hini
      have HC := Lib.hid (fun W (e1 : Mat W (R i) (rc i) (nth L i)) (e2 : Mat W (R' i) (rc' i) (nth L i)) => eqIntSS_any (R i) (R' i) (rc i) (rc' i) (nth L i) (nth L i) W e1 e2)
      have I1 := Lib.hid i1
      have I2 := Lib.hid i2
      rw [eqM_refl] at HC
      clear hrow hrow' hmat hmat' i1 i2
      go_wp2
      go_quiet ((go_at_call 55; (first | exact Calls.quiet_of_same (HC.out _ I1.out I2.out) | exact quiet_add_same (HC.out _ I1.out I2.out) | exact Calls.quiet_of (HC.out _ I1.out I2.out) | exact quiet_add (HC.out _ I1.out I2.out))))
      go_wp2
      go_roundg gi
      case measure => omega
      case rel => exact ⟨i + 1, _, by omega, by go_num, by first | rfl | exact drewN_0 _ | exact drewN_add _ _ _, Lib.hid (by trivial)⟩
    · have hini' : ¬ (i : Int) < (L.length : Nat) := by omega
      obtain rfl : gk = 0 := by omega
      clear hrow hrow' hmat hmat'
      go_wp2
      go_ret
      exact ⟨rfl, _, rfl⟩
set_option maxHeartbeats 1000000 in
theorem eqDesk_any (A B A2 B2 : Option Addr) (c d c2 d2 : Nat) (D : List (List Int)) (L : List (List (List Int))) (w : World) (h1 : Mat w A c D) (h2 : MatS w B d L) (h3 : Mat w A2 c2 D) (h4 : MatS w B2 d2 L) :
    Calls Try.prog 25 #[.agg #[.slice A D.length c, .slice B L.length d], .agg #[.slice A2 D.length c2, .slice B2 L.length d2]] w fun e w' => e = .returned (.bool true) ∧ Ext w w' := by
  have H1 := Lib.hid h1
  have H2 := Lib.hid h2
  have H3 := Lib.hid h3
  have H4 := Lib.hid h4
  have E1 := Lib.hid (eqM_refl D)
  clear h1 h2 h3 h4
  go_enter Try.func25, Try.ntmps25
  go_wp2_with fail
  refine (eqIntSS_any A A2 c c2 D D _ (H1.out.ext (by repeat (first | exact Ext.refl _ | assumption | apply Ext.drewN' | apply Ext.alloc' | refine Ext.trans ?_ (by assumption)))) (H3.out.ext (by repeat (first | exact Ext.refl _ | assumption | apply Ext.drewN' | apply Ext.alloc' | refine Ext.trans ?_ (by assumption))))).mono ?_
  rintro e w1 ⟨rfl, m1, rfl⟩
  rw [E1.out]
  go_wp2_with fail
  refine (eqIntSSS_any B B2 d d2 L _ (H2.out.ext (by repeat (first | exact Ext.refl _ | assumption | apply Ext.drewN' | apply Ext.alloc' | refine Ext.trans ?_ (by assumption)))) (H4.out.ext (by repeat (first | exact Ext.refl _ | assumption | apply Ext.drewN' | apply Ext.alloc' | refine Ext.trans ?_ (by assumption))))).mono ?_
  rintro e w2 ⟨rfl, m2, rfl⟩
  go_wp2
  go_ret
  exact ⟨rfl, (by repeat (first | exact Ext.refl _ | assumption | apply Ext.drewN' | apply Ext.alloc' | refine Ext.trans ?_ (by assumption)))⟩
/-- what a copy of a desk leaves -/
def FreshDk (w : World) (D : List (List Int)) (L : List (List (List Int))) (e : Ending) (w' : World) : Prop :=
  ∃ A c V B d, e = .returned (.agg #[.slice A D.length c, .slice B L.length d]) ∧ MatL w' A c D V ∧ MatSL w' B d L ∧ Ext w w'
theorem three_blocks {w w1 : World} {o1 o2 o3 : Obj} (h : Ext (((w.alloc o1).alloc o2).alloc o3) w1) : w1.heap[w.heap.size]? = some o1 ∧ w1.heap[w.heap.size + 1]? = some o2 ∧ w1.heap[w.heap.size + 1 + 1]? = some o3 := by
  obtain ⟨W1, h1⟩ : ∃ W1, w.alloc o1 = W1 := ⟨_, rfl⟩
  have s1 : W1.heap.size = w.heap.size + 1 := by rw [← h1]; simp
  have a1 : W1.heap[w.heap.size]? = some o1 := by rw [← h1]; exact heap_alloc_new w _
  rw [h1] at h
  obtain ⟨W2, h2⟩ : ∃ W2, W1.alloc o2 = W2 := ⟨_, rfl⟩
  have s2 : W2.heap.size = w.heap.size + 1 + 1 := by rw [← h2]; simp [s1]
  have a2 : W2.heap[w.heap.size + 1]? = some o2 := by rw [← h2, ← s1]; exact heap_alloc_new W1 _
  have b1 : W2.heap[w.heap.size]? = some o1 := by rw [← h2, Below.heap_alloc W1 _ _ (by omega)]; exact a1
  rw [h2] at h
  have s3 : (W2.alloc o3).heap.size = w.heap.size + 1 + 1 + 1 := by simp [s2]
  refine ⟨?_, ?_, ?_⟩
  · rw [h.block (by omega), Below.heap_alloc W2 _ _ (by omega)]; exact b1
  · rw [h.block (by omega), Below.heap_alloc W2 _ _ (by omega)]; exact a2
  · rw [h.block (by omega), ← s2]; exact heap_alloc_new W2 _
theorem set_0 {w : World} {g : Nat} {a b u : Value} {T : TypeId} (hb : w.heap[g]? = some (.cells #[a, b] T (0, 0))) : (w.setCell ⟨g, 0, none⟩ u).heap[g]? = some (.cells #[u, b] T (0, 0)) := by
  simp [World.setCell, Array.getElem?_modify, hb]
theorem set_1 {w : World} {g : Nat} {a b u : Value} {T : TypeId} (hb : w.heap[g]? = some (.cells #[a, b] T (0, 0))) : (w.setCell ⟨g, 1, none⟩ u).heap[g]? = some (.cells #[a, u] T (0, 0)) := by
  simp [World.setCell, Array.getElem?_modify, hb]
set_option maxHeartbeats 4000000 in
theorem toDesk_any (A B : Option Addr) (c d : Nat) (D : List (List Int)) (L : List (List (List Int))) (w : World) (h1 : Mat w A c D) (h2 : MatS w B d L) (hz : D.length + total D ≤ 1048576) (hzL : L.length ≤ 1048576) (hr : ∀ i, i < L.length → (nth L i).length + total (nth L i) ≤ 1048576) :
    Calls Try.prog 23 #[.agg #[.slice A D.length c, .slice B L.length d]] w (FreshDk w D L) := by
  have H1 := Lib.hid h1
  have H2 := Lib.hid h2
  have HR := Lib.hid hr
  have hzr : ∀ j, j < D.length → (row D j).length ≤ 1048576 := fun j hj => by have := row_le_total hj; omega
  have HZ := Lib.hid hzr
  clear h1 h2 hr hzr
  go_enter Try.func23, Try.ntmps23
  go_wp2_with fail
  refine (toIntSS_any A c D _ (H1.out.ext (by repeat (first | exact Ext.refl _ | assumption | apply Ext.drewN' | apply Ext.alloc' | refine Ext.trans ?_ (by assumption)))) (by omega) HZ.out).mono ?_
  rintro e w1 ⟨A1, c1, V, rfl, hm, -, -, hx⟩
  obtain ⟨b0, b1, b2⟩ := three_blocks hx
  have hw1 : Ext w w1 := ((((Ext.refl w).alloc' _).alloc' _).alloc' _).trans hx
  have g0 := cell_cells b0 1
  have g2 := cell_cells b2 0
  have g2f := frozen_cells b2 0
  simp only [List.getElem?_toArray, List.getElem?_cons_zero, List.getElem?_cons_succ] at g0 g2
  obtain ⟨u1, hu1⟩ : ∃ u1, w1.setCell ⟨w.heap.size + 1 + 1, 0, none⟩ (.slice A1 D.length c1) = u1 := ⟨_, rfl⟩
  have bu2 : u1.heap[w.heap.size + 1 + 1]? = some (.cells #[.slice A1 D.length c1, .slice none 0 0] 26 (0, 0)) := by rw [← hu1]; exact set_0 b2
  have bu1 : u1.heap[w.heap.size + 1]? = w1.heap[w.heap.size + 1]? := by rw [← hu1]; exact Below.heap_setCell _ _ _ _ (by show w.heap.size + 1 ≠ w.heap.size + 1 + 1; omega)
  have bu0 : u1.heap[w.heap.size]? = w1.heap[w.heap.size]? := by rw [← hu1]; exact Below.heap_setCell _ _ _ _ (by show w.heap.size ≠ w.heap.size + 1 + 1; omega)
  have g0u := cell_cells (bu0.trans b0) 1
  simp only [List.getElem?_toArray, List.getElem?_cons_zero, List.getElem?_cons_succ] at g0u
  have hu : Ext w u1 := by rw [← hu1]; exact hw1.setCell' (by show w.heap.size ≤ w.heap.size + 1 + 1; omega) _
  have hk1 : KeepT w1 u1 := by rw [← hu1]; exact KeepT.set (p := ⟨w.heap.size + 1 + 1, 0, none⟩) b2 (by decide) _
  have HB := Lib.hid b1
  have HU := Lib.hid (And.intro bu2 (And.intro bu1 (And.intro hu hk1)))
  have HM := Lib.hid hm
  have HMS := Lib.hid (toIntSSS_any B d L u1 (H2.out.ext hu) hzL HR.out)
  clear hx b0 b1 b2 hw1 bu2 bu1 bu0 hu hk1 hm H1 H2 HR HZ
  have sz1 : w.heap.size ≤ u1.heap.size := HU.out.2.2.1.size
  go_wp2_with fail
  refine HMS.out.mono ?_
  rintro e w3 ⟨B3, d3, rfl, hS, hx3⟩
  have c2 : w3.heap[w.heap.size + 1 + 1]? = some (.cells #[.slice A1 D.length c1, .slice none 0 0] 26 (0, 0)) := (hx3.block (heap_lt HU.out.1)).trans HU.out.1
  have c1' : w3.heap[w.heap.size + 1]? = some (.cells #[.slice none 0 0, .slice none 0 0] 26 (0, 0)) := (hx3.block (by have := heap_lt HU.out.1; omega)).trans (HU.out.2.1.trans HB.out)
  have k20 := cell_cells c2 0
  have k21 := cell_cells c2 1
  have k2f := frozen_cells c2 1
  have k10 := cell_cells c1' 0
  have k11 := cell_cells c1' 1
  have k1f := frozen_cells c1' 0
  have k1g := frozen_cells c1' 1
  simp only [List.getElem?_toArray, List.getElem?_cons_zero, List.getElem?_cons_succ] at k20 k21 k10 k11
  have HS := Lib.hid hS
  have HX3 := Lib.hid hx3
  have HC2 := Lib.hid c2
  have HC1 := Lib.hid c1'
  clear hS hx3 c2 c1' hu1 g0 g0u g2 g2f HMS
  go_wp2
  have e1 := set_1 (u := .slice B3 L.length d3) HC2.out
  have e2 : (w3.setCell ⟨w.heap.size + 1 + 1, 1, none⟩ (.slice B3 L.length d3)).heap[w.heap.size + 1]? = some (.cells #[.slice none 0 0, .slice none 0 0] 26 (0, 0)) := (Below.heap_setCell _ _ _ _ (by show w.heap.size + 1 ≠ w.heap.size + 1 + 1; omega)).trans HC1.out
  have kt1 : KeepT w3 (w3.setCell ⟨w.heap.size + 1 + 1, 1, none⟩ (.slice B3 L.length d3)) := KeepT.set (p := ⟨w.heap.size + 1 + 1, 1, none⟩) HC2.out (by decide) _
  have kt2 := KeepT.set (p := ⟨w.heap.size + 1, 0, none⟩) e2 (by decide) (.slice A1 D.length c1)
  have kt3 := KeepT.set (p := ⟨w.heap.size + 1, 1, none⟩) (set_0 (u := .slice A1 D.length c1) e2) (by decide) (.slice B3 L.length d3)
  have kt := (kt1.trans kt2).trans kt3
  have e3 := set_1 (u := .slice B3 L.length d3) (set_0 (u := .slice A1 D.length c1) e2)
  have f0 := cell_cells e3 0
  have f1 := cell_cells e3 1
  simp only [List.getElem?_toArray, List.getElem?_cons_zero, List.getElem?_cons_succ] at f0 f1
  refine bodyPost_ret (v := .agg #[.slice A1 D.length c1, .slice B3 L.length d3]) (by simp [results, Try.results23, go_sem, f0, f1]) rfl ⟨A1, c1, V, B3, d3, rfl, ((HM.out.keepT HU.out.2.2.2).keepT (KeepT.of_ext HX3.out)).keepT kt, HS.out.keepT kt, ?_⟩
  exact (((HU.out.2.2.1.trans HX3.out).setCell' (by show w.heap.size ≤ w.heap.size + 1 + 1; omega) _).setCell' (by show w.heap.size ≤ w.heap.size + 1; omega) _).setCell' (by show w.heap.size ≤ w.heap.size + 1; omega) _

/-- a space, and spaces of before, at most eight -/
def deskB (D : List (List Int)) (L : List (List (List Int))) : Bool := spB D && (decide (L.length ≤ 8) && allR (fun i => spB (nth L i)) L.length 0)
def idxS (L : List (List (List Int))) : Nat → Nat → Int
  | 0, _ => -1
  | g + 1, i => if spB (nth L i) = true then idxS L g (i + 1) else (i : Int)
theorem idxS_spec (L : List (List (List Int))) : ∀ g i, decide (0 ≤ idxS L g i) = !allR (fun i => spB (nth L i)) g i
  | 0, i => rfl
  | g + 1, i => by
    rw [idxS, allR]
    cases e : spB (nth L i) with
    | true => simp only [if_true, Bool.true_and]; exact idxS_spec L g (i + 1)
    | false => simp
set_option maxHeartbeats 1000000 in
theorem isDeskFn_any (A : Option Addr) (c : Nat) (D : List (List Int)) (w : World) (h : Mat w A c D) :
    Calls Try.prog 66 #[.slice A D.length c] w fun e w' => e = .returned (.bool (!spB D)) ∧ ∃ m, w' = w.drewN m := by
  have HC := Lib.hid (isSpace_any A c D w h)
  go_enter Try.func66, Try.ntmps66
  go_wp2_with (go_at_call 45; refine HC.out.mono ?_; rintro e w' ⟨rfl, m0, rfl⟩)
  go_ret
  exact ⟨rfl, _, rfl⟩
set_option maxHeartbeats 1000000 in
theorem IndexFnDesk_any (B : Option Addr) (d : Nat) (L : List (List (List Int))) (w : World) (h : MatS w B d L) :
    Calls Try.prog 79 #[.slice B L.length d, .func (.func 66) #[] #[]] w fun e w' => e = .returned (.int .i64 (idxS L L.length 0)) ∧ ∃ m, w' = w.drewN m := by
  obtain ⟨h1, h2, _⟩ := id h
  obtain ⟨b, o, R, rc, hB, hrow, -, hmat⟩ := h.parts
  unfold maxLen at h2
  go_enter Try.func79, Try.ntmps79
  go_wp2
  go_loopg [8] (L.length) (fun g s8 wr => ∃ (i m : Nat), i + g = L.length ∧ s8 = .int .i64 i ∧ wr = w.drewN m ∧ Hid (idxS L g i = idxS L L.length 0))
  case atStart => exact ⟨0, _, by omega, rfl, by first | rfl | exact drewN_0 _ | exact drewN_add _ _ _, Lib.hid (rfl)⟩
  case round =>
    obtain ⟨i, mi, hi, rfl, rfl, Hi⟩ := hrel
    by_cases hini : i < L.length
    · obtain ⟨gi, rfl⟩ : ∃ g', gk = g' + 1 := ⟨gk - 1, by omega⟩
      have hini' : (i : Int) < (L.length : Nat) := by omega
      obtain rfl := hB (by omega)
      have c1 := hrow i hini
      have HC := Lib.hid (fun W (q : Mat W (R i) (rc i) (nth L i)) => isDeskFn_any (R i) (rc i) (nth L i) W q)
      have HM := Lib.hid (hmat i hini)
      clear hrow hmat
      have Hst := Lib.hid (show idxS L (gi + 1) i = if spB (nth L i) = true then idxS L gi (i + 1) else (i : Int) from rfl)
      cases e : spB (nth L i) with
      | true =>
        rw [e] at Hst HC
        go_wp2_with (go_at_call 66; refine (HC.out _ (HM.out.ext (Ext.drewN _ _))).mono ?_; rintro e w' ⟨rfl, m0, rfl⟩)
        go_roundg gi
        case measure => omega
        case rel => exact ⟨i + 1, _, by omega, by go_num, by first | rfl | exact drewN_0 _ | exact drewN_add _ _ _, Lib.hid (by rw [← Hi.out, Hst.out]; rfl)⟩
      | false =>
        rw [e] at Hst HC
        go_wp2_with (go_at_call 66; refine (HC.out _ (HM.out.ext (Ext.drewN _ _))).mono ?_; rintro e w' ⟨rfl, m0, rfl⟩)
        go_ret
        exact ⟨ret_int (by rw [← Hi.out, Hst.out]; rfl), _, by first | rfl | exact drewN_add _ _ _⟩
    · have hini' : ¬ (i : Int) < (L.length : Nat) := by omega
      obtain rfl : gk = 0 := by omega
      clear hrow hmat
      go_wp2
      go_ret
      exact ⟨ret_int (by rw [← Hi.out]; rfl), _, rfl⟩
set_option maxHeartbeats 1000000 in
theorem ContainsFnDesk_any (B : Option Addr) (d : Nat) (L : List (List (List Int))) (w : World) (h : MatS w B d L) :
    Calls Try.prog 65 #[.slice B L.length d, .func (.func 66) #[] #[]] w fun e w' => e = .returned (.bool (!allR (fun i => spB (nth L i)) L.length 0)) ∧ ∃ m, w' = w.drewN m := by
  have HC := Lib.hid (IndexFnDesk_any B d L w h)
  have HV := Lib.hid (idxS_spec L L.length 0)
  go_enter Try.func65, Try.ntmps65
  go_wp2_with (go_at_call 79; refine HC.out.mono ?_; rintro e w' ⟨rfl, m0, rfl⟩)
  go_ret
  exact ⟨ret_bool HV.out, _, rfl⟩
set_option maxHeartbeats 2000000 in
theorem isDesk_any (A B : Option Addr) (c d : Nat) (D : List (List Int)) (L : List (List (List Int))) (w : World) (h1 : Mat w A c D) (h2 : MatS w B d L) :
    Calls Try.prog 36 #[.agg #[.slice A D.length c, .slice B L.length d]] w fun e w' => e = .returned (.bool (deskB D L)) ∧ Ext w w' := by
  obtain ⟨l1, l2, -⟩ := id h2
  unfold maxLen at l2
  have H1 := Lib.hid h1
  have H2 := Lib.hid h2
  have Hd := Lib.hid (show deskB D L = (spB D && (decide (L.length ≤ 8) && allR (fun i => spB (nth L i)) L.length 0)) from rfl)
  clear h1 h2
  cases hs : spB D with
  | false =>
    rw [hs] at Hd
    go_enter Try.func36, Try.ntmps36
    go_wp2_with fail
    refine (isSpace_any A c D _ (H1.out.ext (by repeat (first | exact Ext.refl _ | assumption | apply Ext.drewN' | apply Ext.alloc' | refine Ext.trans ?_ (by assumption))))).mono ?_
    rintro e w1 ⟨rfl, m1, rfl⟩
    rw [hs]
    go_wp2
    go_ret
    exact ⟨ret_bool (by rw [Hd.out]; rfl), (by repeat (first | exact Ext.refl _ | assumption | apply Ext.drewN' | apply Ext.alloc' | refine Ext.trans ?_ (by assumption)))⟩
  | true =>
    rw [hs] at Hd
    by_cases hl : L.length ≤ 8
    · have hl' : (L.length : Int) ≤ 8 := by omega
      go_enter Try.func36, Try.ntmps36
      go_wp2_with fail
      refine (isSpace_any A c D _ (H1.out.ext (by repeat (first | exact Ext.refl _ | assumption | apply Ext.drewN' | apply Ext.alloc' | refine Ext.trans ?_ (by assumption))))).mono ?_
      rintro e w1 ⟨rfl, m1, rfl⟩
      rw [hs]
      go_wp2_with fail
      refine (ContainsFnDesk_any B d L _ (H2.out.ext (by repeat (first | exact Ext.refl _ | assumption | apply Ext.drewN' | apply Ext.alloc' | refine Ext.trans ?_ (by assumption))))).mono ?_
      rintro e w2 ⟨rfl, m2, rfl⟩
      go_wp2
      go_ret
      exact ⟨ret_bool (by rw [Hd.out, decide_eq_true hl]; simp), (by repeat (first | exact Ext.refl _ | assumption | apply Ext.drewN' | apply Ext.alloc' | refine Ext.trans ?_ (by assumption)))⟩
    · have hl' : ¬ (L.length : Int) ≤ 8 := by omega
      go_enter Try.func36, Try.ntmps36
      go_wp2_with fail
      refine (isSpace_any A c D _ (H1.out.ext (by repeat (first | exact Ext.refl _ | assumption | apply Ext.drewN' | apply Ext.alloc' | refine Ext.trans ?_ (by assumption))))).mono ?_
      rintro e w1 ⟨rfl, m1, rfl⟩
      rw [hs]
      go_wp2
      go_ret
      exact ⟨ret_bool (by rw [Hd.out, decide_eq_false hl]; rfl), (by repeat (first | exact Ext.refl _ | assumption | apply Ext.drewN' | apply Ext.alloc' | refine Ext.trans ?_ (by assumption)))⟩
set_option maxHeartbeats 1000000 in
theorem iDeskOk_any (A B : Option Addr) (c d : Nat) (D : List (List Int)) (L : List (List (List Int))) (w : World) (h1 : Mat w A c D) (h2 : MatS w B d L) :
    Calls Try.prog 9 #[.agg #[.slice A D.length c, .slice B L.length d]] w fun e w' => e = .returned (.bool (deskB D L)) ∧ Ext w w' := by
  have H1 := Lib.hid h1
  have H2 := Lib.hid h2
  clear h1 h2
  go_enter Try.func9, Try.ntmps9
  go_wp2_with fail
  refine (isDesk_any A B c d D L _ (H1.out.ext (by repeat (first | exact Ext.refl _ | assumption | apply Ext.drewN' | apply Ext.alloc' | refine Ext.trans ?_ (by assumption)))) (H2.out.ext (by repeat (first | exact Ext.refl _ | assumption | apply Ext.drewN' | apply Ext.alloc' | refine Ext.trans ?_ (by assumption))))).mono ?_
  rintro e w1 ⟨rfl, hx1⟩
  go_wp2
  go_ret
  exact ⟨rfl, (by repeat (first | exact Ext.refl _ | assumption | apply Ext.drewN' | apply Ext.alloc' | refine Ext.trans ?_ (by assumption)))⟩
set_option maxHeartbeats 2000000 in
theorem sDeskOk_any (A B : Option Addr) (c d : Nat) (D : List (List Int)) (L : List (List (List Int))) (w : World) (h1 : Mat w A c D) (h2 : MatS w B d L) :
    Calls Try.prog 10 #[.agg #[.slice A D.length c, .slice B L.length d]] w fun e w' => e = .returned (.bool (deskB D L)) ∧ Ext w w' := by
  obtain ⟨l1, l2, -⟩ := id h2
  obtain ⟨b, o, R, rc, hB, hrow, -, hmat⟩ := h2.parts
  unfold maxLen at l2
  have H1 := Lib.hid h1
  have HR := Lib.hid hrow
  have HM := Lib.hid hmat
  have Hd := Lib.hid (show deskB D L = (spB D && (decide (L.length ≤ 8) && allR (fun i => spB (nth L i)) L.length 0)) from rfl)
  have hb := heap_alloc_new w (.cells #[.slice A D.length c, .slice B L.length d] 26)
  have g0 := cell_cells hb 0
  have g1 := cell_cells hb 1
  simp only [List.getElem?_toArray, List.getElem?_cons_zero, List.getElem?_cons_succ] at g0 g1
  clear h1 h2 hrow hmat hb
  go_enter Try.func10, Try.ntmps10
  go_wp2
  go_loopg [3] L.length (fun g s3 wr => ∃ i m : Nat, i + g = L.length ∧ s3 = .int .i64 i ∧ wr = (w.alloc (.cells #[.slice A D.length c, .slice B L.length d] 26)).drewN m ∧ Hid (allR (fun i => spB (nth L i)) g i = allR (fun i => spB (nth L i)) L.length 0))
  case atStart => exact ⟨0, 0, by omega, rfl, rfl, Lib.hid rfl⟩
  case round =>
    obtain ⟨i, m, hi, rfl, rfl, HI⟩ := hrel
    by_cases hini : i < L.length
    · obtain ⟨gi, rfl⟩ : ∃ g', gk = g' + 1 := ⟨gk - 1, by omega⟩
      have hini' : (i : Int) < (L.length : Nat) := by omega
      obtain rfl := hB (by omega)
      have c1 := (Ext.alloc w (.cells #[.slice A D.length c, .slice (some ⟨b, o, none⟩) L.length d] 26)).cell (HR.out i hini)
      cases e : spB (nth L i) with
      | true =>
        have E1 := Lib.hid e
        clear e
        go_wp2_with fail
        refine (SpaceOk_any (R i) (rc i) (nth L i) _ ((HM.out i hini).ext (by repeat (first | exact Ext.refl _ | assumption | apply Ext.drewN' | apply Ext.alloc' | refine Ext.trans ?_ (by assumption))))).mono ?_
        rintro e w1 ⟨rfl, m1, rfl⟩
        rw [E1.out]
        go_wp2
        go_roundg gi
        case measure => omega
        case rel => exact ⟨i + 1, _, by omega, by go_num, by first | rfl | exact drewN_add _ _ _, Lib.hid (by rw [← HI.out, allR, E1.out, Bool.true_and])⟩
      | false =>
        have E1 := Lib.hid e
        clear e
        go_wp2_with fail
        refine (SpaceOk_any (R i) (rc i) (nth L i) _ ((HM.out i hini).ext (by repeat (first | exact Ext.refl _ | assumption | apply Ext.drewN' | apply Ext.alloc' | refine Ext.trans ?_ (by assumption))))).mono ?_
        rintro e w1 ⟨rfl, m1, rfl⟩
        rw [E1.out]
        go_wp2
        go_ret
        exact ⟨ret_bool (by rw [Hd.out, ← HI.out, allR, E1.out]; simp), (by repeat (first | exact Ext.refl _ | assumption | apply Ext.drewN' | apply Ext.alloc' | refine Ext.trans ?_ (by assumption)))⟩
    · have hini' : ¬ (i : Int) < (L.length : Nat) := by omega
      obtain rfl : gk = 0 := by omega
      have HF := Lib.hid (show deskB D L = (spB D && decide (L.length ≤ 8)) by rw [Hd.out, ← HI.out]; simp [allR])
      go_wp2_with fail
      refine (SpaceOk_any A c D _ (H1.out.ext (by repeat (first | exact Ext.refl _ | assumption | apply Ext.drewN' | apply Ext.alloc' | refine Ext.trans ?_ (by assumption))))).mono ?_
      rintro e w1 ⟨rfl, m1, rfl⟩
      cases hs : spB D with
      | true =>
        rw [hs] at HF
        go_wp2
        go_ret
        exact ⟨ret_bool (by rw [HF.out, Bool.true_and, Bool.eq_iff_iff]; simp; omega), (by repeat (first | exact Ext.refl _ | assumption | apply Ext.drewN' | apply Ext.alloc' | refine Ext.trans ?_ (by assumption)))⟩
      | false =>
        rw [hs] at HF
        go_wp2
        go_ret
        exact ⟨ret_bool (by rw [HF.out]; rfl), (by repeat (first | exact Ext.refl _ | assumption | apply Ext.drewN' | apply Ext.alloc' | refine Ext.trans ?_ (by assumption)))⟩
end Go.Proofs.Ytbkefojepelggaa
