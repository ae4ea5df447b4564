/- What is proved: contracts and plain laws for what the later texts lean on (Dk, Dk2, Dk3, Cd, Desk0). Conditions: those of each. -/
import Derived.Test.YtnalcgcdohlfiaaGreatDoorPa
import Derived.Test.YtnalcgcdohlfiaaGreatDoorPb
import Derived.Test.YtnalcgcdohlfiaaGreatDoorPc
import Derived.Deep.RegionLaw
namespace Go.Proofs.YtnalcgcdohlfiaaGreatDoor
open Go.RowKit Go.ChangeShapes Go.WideShapes Go.ChangeAt Go.Deep
theorem cellsM : Tryz.prog.cellsOf 23 = 1 := by kernel_rfl
theorem infoM : (Tryz.prog.info? 23).map (fun i => (i.zero, i.size, i.bytes)) = some (some (.slice none 0 0), 1, 24) := by kernel_rfl
def nth (L : List (List (List Int))) (i : Nat) : List (List Int) := L.getD i []
theorem nth_of {L : List (List (List Int))} {i : Nat} (h : i < L.length) : nth L i = L[i] := by simp [nth, h]
theorem ext_nth {L M : List (List (List Int))} (h : L.length = M.length) (hx : ∀ i, i < L.length → nth L i = nth M i) : L = M :=
  List.ext_getElem h fun i h1 h2 => by rw [← nth_of h1, ← nth_of h2]; exact hx i h1
/-- a slice of slices of rows -/
def MatS (w : World) (A : Option Addr) (c : Nat) (L : List (List (List Int))) : Prop :=
  L.length ≤ c ∧ c ≤ maxLen ∧ ∃ b o, (0 < L.length → A = some ⟨b, o, none⟩) ∧ ∀ i, i < L.length → ∃ Ar cr, w.cell? ⟨b, o + i, none⟩ = some (.slice Ar (nth L i).length cr) ∧ Mat w Ar cr (nth L i)
theorem MatS.ext {w w' : World} {A : Option Addr} {c : Nat} {L : List (List (List Int))} (h : MatS w A c L) (k : Ext w w') : MatS w' A c L := by
  obtain ⟨h1, h2, b, o, hA, hc⟩ := h
  refine ⟨h1, h2, b, o, hA, fun i hi => ?_⟩
  obtain ⟨Ar, cr, e, hr⟩ := hc i hi
  exact ⟨Ar, cr, k.cell e, hr.ext k⟩
theorem MatS.nil (w : World) (A : Option Addr) (c : Nat) (hc : c ≤ maxLen) : MatS w A c [] := ⟨Nat.zero_le _, hc, 0, 0, fun h => absurd h (by simp), fun j hj => absurd hj (by simp)⟩
theorem MatS.parts {w : World} {A : Option Addr} {c : Nat} {L : List (List (List Int))} (h : MatS w A c L) :
    ∃ (b o : Nat) (R : Nat → Option Addr) (rc : Nat → Nat), (0 < L.length → A = some ⟨b, o, none⟩) ∧
      (∀ i, i < L.length → w.cell? ⟨b, o + i, none⟩ = some (.slice (R i) (nth L i).length (rc i))) ∧ (∀ i, i < L.length → (nth L i).length ≤ rc i ∧ rc i ≤ maxLen) ∧ (∀ i, i < L.length → Mat w (R i) (rc i) (nth L i)) := by
  obtain ⟨_, _, b, o, hA, hc⟩ := h
  have h' : ∀ i, i < L.length → ∃ x : Option Addr × Nat, w.cell? ⟨b, o + i, none⟩ = some (.slice x.1 (nth L i).length x.2) ∧ Mat w x.1 x.2 (nth L i) := by
    intro i hi
    obtain ⟨Ar, cr, e, hr⟩ := hc i hi
    exact ⟨(Ar, cr), e, hr⟩
  obtain ⟨f, hf⟩ := pick h'
  exact ⟨b, o, fun i => (f i).1, fun i => (f i).2, hA, fun i hi => (hf i hi).1, fun i hi => ⟨(hf i hi).2.1, (hf i hi).2.2.1⟩, fun i hi => (hf i hi).2⟩

section
variable {H : Type} {enc : TypeId × Value → H} {W : World} {base : Nat}
set_option maxRecDepth 100000 in
theorem mat_of_trod {fuel : Nat} {cs : List Value} {x : DataW H × List MemPlace} (hf : DataW.trod enc Tryz.prog W base (fun _ => true) true fuel 23 cs = some x) : ∃ A c D, cs = [.slice A (List.length D) c] ∧ Mat W A c D := by
  rcases open_int_rows Tryz.underlying23 Tryz.underlying47 Tryz.underlying3 cellsR cellsI hf with ⟨hcs, _⟩ | ⟨a, len', cap', A, L, C, Z, hcs, _, hl, hm, _, hrows⟩
  · exact ⟨none, 0, [], hcs, Mat.nil _ _ _ (Nat.zero_le _)⟩
  · have hD : ((List.range len').map fun i => (Z i).take (L i)).length = len' := by simp
    refine ⟨some a, cap', (List.range len').map fun i => (Z i).take (L i), by rw [hD]; exact hcs, by rw [hD]; exact hl, hm, ?_⟩
    by_cases h0 : len' = 0
    · exact ⟨0, 0, fun h => absurd h (by rw [hD]; omega), fun j hj => absurd hj (by rw [hD]; omega)⟩
    · obtain ⟨b, o, s⟩ := a
      have hs : s = none := by simpa [Addr.add] using World.cell?_spot (hrows 0 (by omega)).1
      subst hs
      refine ⟨b, o, fun _ => rfl, fun i hi => ?_⟩
      rw [hD] at hi
      obtain ⟨k1, k2, k3, k4, k5, k6, k7⟩ := hrows i (by omega)
      have hrow : row ((List.range len').map fun i => (Z i).take (L i)) i = (Z i).take (L i) := by
        rw [row_of (by rw [hD]; exact hi)]; simp
      obtain ⟨e, hI⟩ := ints_of_cells (w := W) k2 k3 k4 k6 (fun a' ha c hc => (k7 a' ha).2 c hc)
      rw [add_plain] at k1
      rw [hrow]
      exact ⟨A i, C i, by rw [k1, e], hI⟩
set_option maxRecDepth 100000 in
theorem mats_of_trod {fuel : Nat} {cs : List Value} {x : DataW H × List MemPlace} (hf : DataW.trod enc Tryz.prog W base (fun _ => true) true fuel 24 cs = some x) : ∃ A c L, cs = [.slice A (List.length L) c] ∧ MatS W A c L := by
  rcases open_slice1 Tryz.underlying24 cellsM hf with ⟨hcs, _⟩ | ⟨a, len, cap, m, n, V, D, Pl, rfl, hb, hl, hm, hmm, rfl, hx⟩
  · exact ⟨none, 0, [], hcs, MatS.nil _ _ _ (Nat.zero_le _)⟩
  · simp only [if_true] at hmm
    have each : ∀ r, r < len → ∃ y : List (List Int) × Option Addr × Nat, V r = .slice y.2.1 y.1.length y.2.2 ∧ Mat W y.2.1 y.2.2 y.1 := fun r hr => by
      obtain ⟨A, c, D, e, hM⟩ := mat_of_trod (hx r (by omega)).2
      exact ⟨(D, A, c), by simpa using e, hM⟩
    obtain ⟨y, hy⟩ := pick each
    have hD : ((List.range len).map fun i => (y i).1).length = len := by simp
    refine ⟨some a, cap, (List.range len).map fun i => (y i).1, by rw [hD], by rw [hD]; exact hl, hm, ?_⟩
    by_cases h0 : len = 0
    · exact ⟨0, 0, fun h => absurd h (by rw [hD]; omega), fun j hj => absurd hj (by rw [hD]; omega)⟩
    · obtain ⟨b, o, s⟩ := a
      have hs : s = none := by simpa [Addr.add] using World.cell?_spot (hx 0 (by omega)).1
      subst hs
      refine ⟨b, o, fun _ => rfl, fun i hi => ?_⟩
      rw [hD] at hi
      have k1 := (hx i (by omega)).1
      rw [add_plain] at k1
      have hrow : nth ((List.range len).map fun i => (y i).1) i = (y i).1 := by
        rw [nth_of (by rw [hD]; exact hi)]; simp
      rw [hrow]
      exact ⟨(y i).2.1, (y i).2.2, by rw [k1, (hy i hi).1], (hy i hi).2⟩
end
end Go.Proofs.YtnalcgcdohlfiaaGreatDoor
namespace Go.Proofs.YtnalcgcdohlfiaaGreatDoor
open Go.RowKit
def szSR (L : List (List (List Int))) : Nat → Nat → Int → Int
  | 0, _, l => l
  | g + 1, i, l => if szM (nth L i) l < 0 then -1 else szSR L g (i + 1) (szM (nth L i) l)
def szS (L : List (List (List Int))) (l : Int) : Int := if l - L.length < 0 then -1 else szSR L L.length 0 (l - L.length)
theorem szM_le {D : List (List Int)} {l : Int} (h : ¬ szM D l < 0) : szM D l ≤ l ∧ ((D.length + total D : Nat) : Int) ≤ l := by
  obtain ⟨h1, h2⟩ := szM_spec (D := D) (l := l) (by omega)
  exact ⟨by rw [h2]; omega, h1⟩
theorem szSR_spec (L : List (List (List Int))) : ∀ g i l, l ≤ 1048576 → 0 ≤ szSR L g i l → ∀ j, i ≤ j → j < i + g → (((nth L j).length + total (nth L j) : Nat) : Int) ≤ 1048576
  | 0, i, l, _, _, j, h1, h2 => by omega
  | g + 1, i, l, hl, h, j, h1, h2 => by
    rw [szSR] at h
    by_cases hz : szM (nth L i) l < 0
    · rw [if_pos hz] at h; omega
    · rw [if_neg hz] at h
      obtain ⟨k1, k2⟩ := szM_le hz
      by_cases e : j = i
      · subst e; omega
      · exact szSR_spec L g (i + 1) _ (by omega) h j (by omega) (by omega)
theorem szS_spec {L : List (List (List Int))} {l : Int} (hl : l ≤ 1048576) (h : ¬ szS L l < 0) : L.length ≤ 1048576 ∧ ∀ j, j < L.length → (nth L j).length + total (nth L j) ≤ 1048576 := by
  unfold szS at h
  by_cases q : l - (L.length : Int) < 0
  · rw [if_pos q] at h; omega
  · rw [if_neg q] at h
    refine ⟨by omega, fun j hj => ?_⟩
    have := szSR_spec L L.length 0 (l - L.length) (by omega) (by omega) j (by omega) (by omega)
    omega

def szDk (D : List (List Int)) (L : List (List (List Int))) (l : Int) : Int := if szM D l < 0 then -1 else if szS L (szM D l) < 0 then -1 else szS L (szM D l)
/-- the blocks of numbers, of rows and of slices of rows stay -/
def KeepT (w w' : World) : Prop := ∀ (g : Nat) (cs : Array Value) (t : TypeId) (fz : Nat × Nat), w.heap[g]? = some (.cells cs t fz) → (t = 3 ∨ t = 47 ∨ t = 23) → w'.heap[g]? = w.heap[g]?
theorem KeepT.of_ext {w w' : World} (h : Ext w w') : KeepT w w' := fun _ _ _ _ hg _ => h.block (heap_lt hg)
theorem KeepT.trans {a b c : World} (h : KeepT a b) (k : KeepT b c) : KeepT a c := fun g cs t fz hg ht => (k g cs t fz ((h g cs t fz hg ht).trans hg) ht).trans (h g cs t fz hg ht)
theorem KeepT.set {w : World} {p : Addr} {cs : Array Value} {t : TypeId} {fz : Nat × Nat} (hp : w.heap[p.block]? = some (.cells cs t fz)) (ht : t ≠ 3 ∧ t ≠ 47 ∧ t ≠ 23) (u : Value) : KeepT w (w.setCell p u) := fun g cs' t' fz' hg ht' =>
  Below.heap_setCell _ _ _ _ fun e => by
    subst e
    rw [hp] at hg
    injection hg with hg; injection hg with _ hg
    subst hg
    rcases ht' with h | h | h
    · exact ht.1 h
    · exact ht.2.1 h
    · exact ht.2.2 h
theorem MatL.keepR {w w' : World} {A : Option Addr} {c : Nat} {D : List (List Int)} {V : Nat → Value} (h : MatL w A c D V) (k : ∀ (g : Nat) (cs : Array Value) (t : TypeId) (fz : Nat × Nat), w.heap[g]? = some (.cells cs t fz) → (t = 3 ∨ t = 47) → w'.heap[g]? = w.heap[g]?) : MatL w' A c D V := by
  obtain ⟨h1, h2, b, o, hA, hc⟩ := h
  refine ⟨h1, h2, b, o, fun h0 => ?_, fun i hi => ?_⟩
  · obtain ⟨e, cs, fz, hb⟩ := hA h0
    exact ⟨e, cs, fz, (k b cs _ fz hb (.inr rfl)).trans hb⟩
  · obtain ⟨e, cs, fz, hb⟩ := hA (by omega)
    refine ⟨?_, (hc i hi).2.keep fun g hg => ?_⟩
    · rw [← (hc i hi).1]; exact World.cell?_of_block (k b cs _ fz hb (.inr rfl))
    · obtain ⟨cs', hb'⟩ := (hc i hi).2.blocks g hg
      exact k g cs' _ _ hb' (.inl rfl)
theorem MatL.keepT {w w' : World} {A : Option Addr} {c : Nat} {D : List (List Int)} {V : Nat → Value} (h : MatL w A c D V) (k : KeepT w w') : MatL w' A c D V :=
  h.keepR fun g cs t fz hg ht => k g cs t fz hg (by rcases ht with h | h <;> simp [h])
/-- slices of rows of one's own -/
def MatSL (w : World) (A : Option Addr) (c : Nat) (L : List (List (List Int))) : Prop :=
  L.length ≤ c ∧ c ≤ maxLen ∧ ∃ b o, (0 < L.length → A = some ⟨b, o, none⟩ ∧ ∃ cs fz, w.heap[b]? = some (.cells cs 23 fz)) ∧ ∀ i, i < L.length → ∃ Ar cr V, w.cell? ⟨b, o + i, none⟩ = some (.slice Ar (nth L i).length cr) ∧ MatL w Ar cr (nth L i) V
theorem MatSL.mats {w : World} {A : Option Addr} {c : Nat} {L : List (List (List Int))} (h : MatSL w A c L) : MatS w A c L := by
  obtain ⟨h1, h2, b, o, hA, hc⟩ := h
  refine ⟨h1, h2, b, o, fun h0 => (hA h0).1, fun i hi => ?_⟩
  obtain ⟨Ar, cr, V, e, hM⟩ := hc i hi
  exact ⟨Ar, cr, e, hM.mat⟩
theorem MatSL.keepT {w w' : World} {A : Option Addr} {c : Nat} {L : List (List (List Int))} (h : MatSL w A c L) (k : KeepT w w') : MatSL w' A c L := by
  obtain ⟨h1, h2, b, o, hA, hc⟩ := h
  refine ⟨h1, h2, b, o, fun h0 => ?_, fun i hi => ?_⟩
  · obtain ⟨e, cs, fz, hb⟩ := hA h0
    exact ⟨e, cs, fz, (k b cs _ fz hb (.inr (.inr rfl))).trans hb⟩
  · obtain ⟨e, cs, fz, hb⟩ := hA (by omega)
    obtain ⟨Ar, cr, V, e2, hM⟩ := hc i hi
    exact ⟨Ar, cr, V, by rw [← e2]; exact World.cell?_of_block (k b cs _ fz hb (.inr (.inr rfl))), hM.keepT k⟩
/-- what a copy of slices of rows leaves -/
def FreshS (w : World) (L : List (List (List Int))) (e : Ending) (w' : World) : Prop := ∃ A c, e = .returned (.slice A L.length c) ∧ MatSL w' A c L ∧ Ext w w'

def eqS (L M : List (List (List Int))) : Bool := decide (L = M)
theorem eqS_refl (L : List (List (List Int))) : eqS L L = true := decide_eq_true rfl
theorem eqS_all (L : List (List (List Int))) : ∀ g i, allR (fun j => eqM (nth L j) (nth L j)) g i = true
  | 0, _ => rfl
  | g + 1, i => by rw [allR, eqM_refl, Bool.true_and]; exact eqS_all L g (i + 1)
/-- what a copy of a desk leaves -/
def FreshDk (w : World) (D : List (List Int)) (L : List (List (List Int))) (e : Ending) (w' : World) : Prop :=
  ∃ A c V B d, e = .returned (.agg #[.slice A D.length c, .slice B L.length d]) ∧ MatL w' A c D V ∧ MatSL w' B d L ∧ Ext w w'
/-- a space, and spaces of before, at most eight -/
def deskB (D : List (List Int)) (L : List (List (List Int))) : Bool := spB D && (decide (L.length ≤ 8) && allR (fun i => spB (nth L i)) L.length 0)
def idxS (L : List (List (List Int))) : Nat → Nat → Int
  | 0, _ => -1
  | g + 1, i => if spB (nth L i) = true then idxS L g (i + 1) else (i : Int)
theorem idxS_spec (L : List (List (List Int))) : ∀ g i, decide (0 ≤ idxS L g i) = !allR (fun i => spB (nth L i)) g i
  | 0, i => rfl
  | g + 1, i => by
    rw [idxS, allR]
    cases e : spB (nth L i) with
    | true => simp only [if_true, Bool.true_and]; exact idxS_spec L g (i + 1)
    | false => simp
set_option maxHeartbeats 1000000 in
theorem isDeskFn_any (A : Option Addr) (c : Nat) (D : List (List Int)) (w : World) (h : Mat w A c D) :
    Calls Tryz.prog 33 #[.slice A D.length c] w fun e w' => e = .returned (.bool (!spB D)) ∧ ∃ m, w' = w.drewN m := by
  have HC := Lib.hid (isSpace_any A c D w h)
  go_enter Tryz.func33, Tryz.ntmps33
  go_wp2_with (go_at_call 31; refine HC.out.mono ?_; rintro e w' ⟨rfl, m0, rfl⟩)
  go_ret
  exact ⟨rfl, _, rfl⟩
set_option maxHeartbeats 1000000 in
theorem IndexFnDesk_any (B : Option Addr) (d : Nat) (L : List (List (List Int))) (w : World) (h : MatS w B d L) :
    Calls Tryz.prog 56 #[.slice B L.length d, .func (.func 33) #[] #[]] w fun e w' => e = .returned (.int .i64 (idxS L L.length 0)) ∧ ∃ m, w' = w.drewN m := by
  obtain ⟨h1, h2, _⟩ := id h
  obtain ⟨b, o, R, rc, hB, hrow, -, hmat⟩ := h.parts
  unfold maxLen at h2
  go_enter Tryz.func56, Tryz.ntmps56
  go_wp2
  go_loopg [8] (L.length) (fun g s8 wr => ∃ (i m : Nat), i + g = L.length ∧ s8 = .int .i64 i ∧ wr = w.drewN m ∧ Hid (idxS L g i = idxS L L.length 0))
  case atStart => exact ⟨0, _, by omega, rfl, by first | rfl | exact drewN_0 _ | exact drewN_add _ _ _, Lib.hid (rfl)⟩
  case round =>
    obtain ⟨i, mi, hi, rfl, rfl, Hi⟩ := hrel
    by_cases hini : i < L.length
    · obtain ⟨gi, rfl⟩ : ∃ g', gk = g' + 1 := ⟨gk - 1, by omega⟩
      have hini' : (i : Int) < (L.length : Nat) := by omega
      obtain rfl := hB (by omega)
      have c1 := hrow i hini
      have HC := Lib.hid (fun W (q : Mat W (R i) (rc i) (nth L i)) => isDeskFn_any (R i) (rc i) (nth L i) W q)
      have HM := Lib.hid (hmat i hini)
      clear hrow hmat
      have Hst := Lib.hid (show idxS L (gi + 1) i = if spB (nth L i) = true then idxS L gi (i + 1) else (i : Int) from rfl)
      cases e : spB (nth L i) with
      | true =>
        rw [e] at Hst HC
        go_wp2_with (go_at_call 33; refine (HC.out _ (HM.out.ext (Ext.drewN _ _))).mono ?_; rintro e w' ⟨rfl, m0, rfl⟩)
        go_roundg gi
        case measure => omega
        case rel => exact ⟨i + 1, _, by omega, by go_num, by first | rfl | exact drewN_0 _ | exact drewN_add _ _ _, Lib.hid (by rw [← Hi.out, Hst.out]; rfl)⟩
      | false =>
        rw [e] at Hst HC
        go_wp2_with (go_at_call 33; refine (HC.out _ (HM.out.ext (Ext.drewN _ _))).mono ?_; rintro e w' ⟨rfl, m0, rfl⟩)
        go_ret
        exact ⟨ret_int (by rw [← Hi.out, Hst.out]; rfl), _, by first | rfl | exact drewN_add _ _ _⟩
    · have hini' : ¬ (i : Int) < (L.length : Nat) := by omega
      obtain rfl : gk = 0 := by omega
      clear hrow hmat
      go_wp2
      go_ret
      exact ⟨ret_int (by rw [← Hi.out]; rfl), _, rfl⟩
set_option maxHeartbeats 1000000 in
theorem ContainsFnDesk_any (B : Option Addr) (d : Nat) (L : List (List (List Int))) (w : World) (h : MatS w B d L) :
    Calls Tryz.prog 32 #[.slice B L.length d, .func (.func 33) #[] #[]] w fun e w' => e = .returned (.bool (!allR (fun i => spB (nth L i)) L.length 0)) ∧ ∃ m, w' = w.drewN m := by
  have HC := Lib.hid (IndexFnDesk_any B d L w h)
  have HV := Lib.hid (idxS_spec L L.length 0)
  go_enter Tryz.func32, Tryz.ntmps32
  go_wp2_with (go_at_call 56; refine HC.out.mono ?_; rintro e w' ⟨rfl, m0, rfl⟩)
  go_ret
  exact ⟨ret_bool HV.out, _, rfl⟩
set_option maxHeartbeats 2000000 in
theorem isDesk_any (A B : Option Addr) (c d : Nat) (D : List (List Int)) (L : List (List (List Int))) (w : World) (h1 : Mat w A c D) (h2 : MatS w B d L) :
    Calls Tryz.prog 18 #[.agg #[.slice A D.length c, .slice B L.length d]] w fun e w' => e = .returned (.bool (deskB D L)) ∧ Ext w w' := by
  obtain ⟨l1, l2, -⟩ := id h2
  unfold maxLen at l2
  have H1 := Lib.hid h1
  have H2 := Lib.hid h2
  have Hd := Lib.hid (show deskB D L = (spB D && (decide (L.length ≤ 8) && allR (fun i => spB (nth L i)) L.length 0)) from rfl)
  clear h1 h2
  cases hs : spB D with
  | false =>
    rw [hs] at Hd
    go_enter Tryz.func18, Tryz.ntmps18
    go_wp2_with fail
    refine (isSpace_any A c D _ (H1.out.ext (by repeat (first | exact Ext.refl _ | assumption | apply Ext.drewN' | apply Ext.alloc' | refine Ext.trans ?_ (by assumption))))).mono ?_
    rintro e w1 ⟨rfl, m1, rfl⟩
    rw [hs]
    go_wp2
    go_ret
    exact ⟨ret_bool (by rw [Hd.out]; rfl), (by repeat (first | exact Ext.refl _ | assumption | apply Ext.drewN' | apply Ext.alloc' | refine Ext.trans ?_ (by assumption)))⟩
  | true =>
    rw [hs] at Hd
    by_cases hl : L.length ≤ 8
    · have hl' : (L.length : Int) ≤ 8 := by omega
      go_enter Tryz.func18, Tryz.ntmps18
      go_wp2_with fail
      refine (isSpace_any A c D _ (H1.out.ext (by repeat (first | exact Ext.refl _ | assumption | apply Ext.drewN' | apply Ext.alloc' | refine Ext.trans ?_ (by assumption))))).mono ?_
      rintro e w1 ⟨rfl, m1, rfl⟩
      rw [hs]
      go_wp2_with fail
      refine (ContainsFnDesk_any B d L _ (H2.out.ext (by repeat (first | exact Ext.refl _ | assumption | apply Ext.drewN' | apply Ext.alloc' | refine Ext.trans ?_ (by assumption))))).mono ?_
      rintro e w2 ⟨rfl, m2, rfl⟩
      go_wp2
      go_ret
      exact ⟨ret_bool (by rw [Hd.out, decide_eq_true hl]; simp), (by repeat (first | exact Ext.refl _ | assumption | apply Ext.drewN' | apply Ext.alloc' | refine Ext.trans ?_ (by assumption)))⟩
    · have hl' : ¬ (L.length : Int) ≤ 8 := by omega
      go_enter Tryz.func18, Tryz.ntmps18
      go_wp2_with fail
      refine (isSpace_any A c D _ (H1.out.ext (by repeat (first | exact Ext.refl _ | assumption | apply Ext.drewN' | apply Ext.alloc' | refine Ext.trans ?_ (by assumption))))).mono ?_
      rintro e w1 ⟨rfl, m1, rfl⟩
      rw [hs]
      go_wp2
      go_ret
      exact ⟨ret_bool (by rw [Hd.out, decide_eq_false hl]; rfl), (by repeat (first | exact Ext.refl _ | assumption | apply Ext.drewN' | apply Ext.alloc' | refine Ext.trans ?_ (by assumption)))⟩
set_option maxHeartbeats 2000000 in
theorem sDeskOk_any (A B : Option Addr) (c d : Nat) (D : List (List Int)) (L : List (List (List Int))) (w : World) (h1 : Mat w A c D) (h2 : MatS w B d L) :
    Calls Tryz.prog 9 #[.agg #[.slice A D.length c, .slice B L.length d]] w fun e w' => e = .returned (.bool (deskB D L)) ∧ Ext w w' := by
  obtain ⟨l1, l2, -⟩ := id h2
  obtain ⟨b, o, R, rc, hB, hrow, -, hmat⟩ := h2.parts
  unfold maxLen at l2
  have H1 := Lib.hid h1
  have HR := Lib.hid hrow
  have HM := Lib.hid hmat
  have Hd := Lib.hid (show deskB D L = (spB D && (decide (L.length ≤ 8) && allR (fun i => spB (nth L i)) L.length 0)) from rfl)
  have hb := heap_alloc_new w (.cells #[.slice A D.length c, .slice B L.length d] 26)
  have g0 := cell_cells hb 0
  have g1 := cell_cells hb 1
  simp only [List.getElem?_toArray, List.getElem?_cons_zero, List.getElem?_cons_succ] at g0 g1
  clear h1 h2 hrow hmat hb
  go_enter Tryz.func9, Tryz.ntmps9
  go_wp2
  go_loopg [3] L.length (fun g s3 wr => ∃ i m : Nat, i + g = L.length ∧ s3 = .int .i64 i ∧ wr = (w.alloc (.cells #[.slice A D.length c, .slice B L.length d] 26)).drewN m ∧ Hid (allR (fun i => spB (nth L i)) g i = allR (fun i => spB (nth L i)) L.length 0))
  case atStart => exact ⟨0, 0, by omega, rfl, rfl, Lib.hid rfl⟩
  case round =>
    obtain ⟨i, m, hi, rfl, rfl, HI⟩ := hrel
    by_cases hini : i < L.length
    · obtain ⟨gi, rfl⟩ : ∃ g', gk = g' + 1 := ⟨gk - 1, by omega⟩
      have hini' : (i : Int) < (L.length : Nat) := by omega
      obtain rfl := hB (by omega)
      have c1 := (Ext.alloc w (.cells #[.slice A D.length c, .slice (some ⟨b, o, none⟩) L.length d] 26)).cell (HR.out i hini)
      cases e : spB (nth L i) with
      | true =>
        have E1 := Lib.hid e
        clear e
        go_wp2_with fail
        refine (SpaceOk_any (R i) (rc i) (nth L i) _ ((HM.out i hini).ext (by repeat (first | exact Ext.refl _ | assumption | apply Ext.drewN' | apply Ext.alloc' | refine Ext.trans ?_ (by assumption))))).mono ?_
        rintro e w1 ⟨rfl, m1, rfl⟩
        rw [E1.out]
        go_wp2
        go_roundg gi
        case measure => omega
        case rel => exact ⟨i + 1, _, by omega, by go_num, by first | rfl | exact drewN_add _ _ _, Lib.hid (by rw [← HI.out, allR, E1.out, Bool.true_and])⟩
      | false =>
        have E1 := Lib.hid e
        clear e
        go_wp2_with fail
        refine (SpaceOk_any (R i) (rc i) (nth L i) _ ((HM.out i hini).ext (by repeat (first | exact Ext.refl _ | assumption | apply Ext.drewN' | apply Ext.alloc' | refine Ext.trans ?_ (by assumption))))).mono ?_
        rintro e w1 ⟨rfl, m1, rfl⟩
        rw [E1.out]
        go_wp2
        go_ret
        exact ⟨ret_bool (by rw [Hd.out, ← HI.out, allR, E1.out]; simp), (by repeat (first | exact Ext.refl _ | assumption | apply Ext.drewN' | apply Ext.alloc' | refine Ext.trans ?_ (by assumption)))⟩
    · have hini' : ¬ (i : Int) < (L.length : Nat) := by omega
      obtain rfl : gk = 0 := by omega
      have HF := Lib.hid (show deskB D L = (spB D && decide (L.length ≤ 8)) by rw [Hd.out, ← HI.out]; simp [allR])
      go_wp2_with fail
      refine (SpaceOk_any A c D _ (H1.out.ext (by repeat (first | exact Ext.refl _ | assumption | apply Ext.drewN' | apply Ext.alloc' | refine Ext.trans ?_ (by assumption))))).mono ?_
      rintro e w1 ⟨rfl, m1, rfl⟩
      cases hs : spB D with
      | true =>
        rw [hs] at HF
        go_wp2
        go_ret
        exact ⟨ret_bool (by rw [HF.out, Bool.true_and, Bool.eq_iff_iff]; simp; omega), (by repeat (first | exact Ext.refl _ | assumption | apply Ext.drewN' | apply Ext.alloc' | refine Ext.trans ?_ (by assumption)))⟩
      | false =>
        rw [hs] at HF
        go_wp2
        go_ret
        exact ⟨ret_bool (by rw [HF.out]; rfl), (by repeat (first | exact Ext.refl _ | assumption | apply Ext.drewN' | apply Ext.alloc' | refine Ext.trans ?_ (by assumption)))⟩
end Go.Proofs.YtnalcgcdohlfiaaGreatDoor
namespace Go.Proofs.YtnalcgcdohlfiaaGreatDoor
open Go.RowKit
/-- rows of one's own -/
def OwnM (b : Nat) (W : World) (u : Value) (D : List (List Int)) (V : Nat → Value) : Prop :=
  W.ownsRow b 47 1 u ((List.range D.length).map V).length ((List.range D.length).map V) ∧ (∀ i, i < D.length → Leaf W (V i) (row D i)) ∧ Dis D.length V ∧ (∀ i, i < D.length → ∀ g ∈ lb (V i), b ≤ g)
theorem AccM.own {w0 W : World} {u : Value} {D : List (List Int)} {V : Nat → Value} (h : AccM w0 W u D V) : OwnM w0.heap.size W u D V := ⟨h.1.2, h.2.1, h.2.2.1, h.2.2.2⟩
theorem OwnM.acc {w0 W : World} {u : Value} {D : List (List Int)} {V : Nat → Value} (h : OwnM w0.heap.size W u D V) (k : Ext w0 W) : AccM w0 W u D V := ⟨⟨k, h.1⟩, h.2.1, h.2.2.1, h.2.2.2⟩
/-- blocks of numbers, rows and slices of rows from b on stay -/
def KeepB (b : Nat) (w w' : World) : Prop := ∀ (g : Nat) (cs : Array Value) (t : TypeId), b ≤ g → w.heap[g]? = some (.cells cs t (0, 0)) → (t = 3 ∨ t = 47 ∨ t = 23) → w'.heap[g]? = w.heap[g]?
theorem KeepB.of_ext {b : Nat} {w w' : World} (h : Ext w w') : KeepB b w w' := fun _ _ _ _ hg _ => h.block (heap_lt hg)
theorem KeepB.of_g {b g : Nat} {w w' : World} (h : ExtG g w w') (hg : g < b) : KeepB b w w' := fun q _ _ hq hh _ => h.2.2.2.2 q (heap_lt hh) (by omega)
theorem KeepB.trans {b : Nat} {x y z : World} (h : KeepB b x y) (k : KeepB b y z) : KeepB b x z := fun g cs t hb hg ht => (k g cs t hb ((h g cs t hb hg ht).trans hg) ht).trans (h g cs t hb hg ht)
theorem KeepB.set {b : Nat} {w : World} {p : Addr} {cs : Array Value} {t : TypeId} {fz : Nat × Nat} (hp : w.heap[p.block]? = some (.cells cs t fz)) (ht : t ≠ 3 ∧ t ≠ 47 ∧ t ≠ 23) (u : Value) : KeepB b w (w.setCell p u) := fun g cs' t' _ hg ht' =>
  Below.heap_setCell _ _ _ _ fun e => by
    subst e
    rw [hp] at hg
    injection hg with hg; injection hg with _ hg
    subst hg
    rcases ht' with h | h | h
    · exact ht.1 h
    · exact ht.2.1 h
    · exact ht.2.2 h
theorem KeepB.keepT {b : Nat} {w w' : World} (h : KeepT w w') : KeepB b w w' := fun g cs t _ hg ht => h g cs t (0, 0) hg ht
theorem own_keep {b : Nat} {w w' : World} {E : TypeId} {v : Value} {n : Nat} {xs : List Value} (h : w.ownsRow b E 1 v n xs) (k : KeepB b w w') (hE : E = 3 ∨ E = 47 ∨ E = 23) : w'.ownsRow b E 1 v n xs := by
  obtain ⟨h1, h2⟩ := h
  refine ⟨h1, ?_⟩
  rcases h2 with h3 | ⟨g, cap, cur, e1, e2, e3, e4⟩
  · exact .inl h3
  · exact .inr ⟨g, cap, cur, e1, e2, (k g cur E e2 e3 hE).trans e3, e4⟩
/-- blocks of numbers and of rows from b on stay -/
def KeepR (b : Nat) (w w' : World) : Prop := ∀ (g : Nat) (cs : Array Value) (t : TypeId), b ≤ g → w.heap[g]? = some (.cells cs t (0, 0)) → (t = 3 ∨ t = 47) → w'.heap[g]? = w.heap[g]?
theorem KeepB.r {b : Nat} {w w' : World} (h : KeepB b w w') : KeepR b w w' := fun g cs t hb hg ht => h g cs t hb hg (by rcases ht with h | h <;> simp [h])
theorem OwnM.keepR {b : Nat} {w w' : World} {u : Value} {D : List (List Int)} {V : Nat → Value} (h : OwnM b w u D V) (k : KeepR b w w') : OwnM b w' u D V := by
  obtain ⟨h1, h2, h3, h4⟩ := h
  refine ⟨⟨h1.1, h1.2.imp id fun ⟨g, cap, cur, e1, e2, e3, e4⟩ => ⟨g, cap, cur, e1, e2, (k g cur _ e2 e3 (.inr rfl)).trans e3, e4⟩⟩, fun i hi => (h2 i hi).keep fun g hg => ?_, h3, h4⟩
  obtain ⟨cs, hb⟩ := (h2 i hi).blocks g hg
  exact k g cs _ (h4 i hi g hg) hb (.inl rfl)
theorem OwnM.keep {b : Nat} {w w' : World} {u : Value} {D : List (List Int)} {V : Nat → Value} (h : OwnM b w u D V) (k : KeepB b w w') : OwnM b w' u D V := h.keepR k.r
theorem OwnM.low {b b' : Nat} {w : World} {u : Value} {D : List (List Int)} {V : Nat → Value} (h : OwnM b w u D V) (k : b' ≤ b) : OwnM b' w u D V :=
  ⟨⟨h.1.1, h.1.2.imp id fun ⟨g, cap, cur, h1, h2, h3⟩ => ⟨g, cap, cur, h1, Nat.le_trans k h2, h3⟩⟩, h.2.1, h.2.2.1, fun i hi g hg => Nat.le_trans k (h.2.2.2 i hi g hg)⟩
theorem OwnM.obj {b : Nat} {w : World} {u : Value} {D : List (List Int)} {V : Nat → Value} (h : OwnM b w u D V) : ∃ A c, u = .slice A D.length c ∧ ObjM b w A c D V := by
  obtain ⟨h1, h2, h3, h4⟩ := h
  rcases h1.2 with ⟨rfl, h0⟩ | ⟨g, cap, cur, rfl, hb, hg, hc, hm, hs, ht⟩
  · have h0 : D.length = 0 := by simpa using h0
    have : D = [] := List.eq_nil_of_length_eq_zero h0
    subst this
    exact ⟨none, 0, rfl, ObjM.nil _ _ _ _ (Nat.zero_le _) _⟩
  · simp only [List.length_map, List.length_range, Nat.mul_one] at hc ht ⊢
    refine ⟨some ⟨g, 0, none⟩, cap, rfl, hc, hm, fun _ => ⟨g, cur, rfl, hb, hg, fun i hi => ?_⟩, h2, h3, h4⟩
    have e : (cur.toList.take D.length)[i]? = ((List.range D.length).map V)[i]? := by rw [ht]
    rw [List.getElem?_take, if_pos hi] at e
    rw [← Array.getElem?_toList, e]
    simp [hi]
theorem OwnM.mat {b : Nat} {w : World} {u : Value} {D : List (List Int)} {V : Nat → Value} (h : OwnM b w u D V) : ∃ A c, u = .slice A D.length c ∧ Mat w A c D := by
  obtain ⟨A, c, e, hO⟩ := h.obj
  exact ⟨A, c, e, hO.mat⟩
theorem OwnM.lt {b : Nat} {w : World} {u : Value} {D : List (List Int)} {V : Nat → Value} (h : OwnM b w u D V) {i g : Nat} (hi : i < D.length) (hg : g ∈ lb (V i)) : g < w.heap.size := (h.2.1 i hi).lt hg
/-- the leaves of different lists of rows are apart -/
def Cross (L : List (List (List Int))) (V : Nat → Nat → Value) : Prop := ∀ i j, i < L.length → j < L.length → i ≠ j → ∀ p, p < (nth L i).length → ∀ q, q < (nth L j).length → ∀ g ∈ lb (V i p), g ∉ lb (V j q)
/-- spaces of before of one's own -/
def OwnS (b : Nat) (W : World) (v : Value) (L : List (List (List Int))) (U : Nat → Value) (V : Nat → Nat → Value) : Prop :=
  W.ownsRow b 23 1 v ((List.range L.length).map U).length ((List.range L.length).map U) ∧ (∀ j, j < L.length → OwnM b W (U j) (nth L j) (V j)) ∧ Cross L V
theorem OwnS.keep {b : Nat} {w w' : World} {v : Value} {L : List (List (List Int))} {U : Nat → Value} {V : Nat → Nat → Value} (h : OwnS b w v L U V) (k : KeepB b w w') : OwnS b w' v L U V :=
  ⟨own_keep h.1 k (.inr (.inr rfl)), fun j hj => (h.2.1 j hj).keep k, h.2.2⟩
theorem OwnS.low {b b' : Nat} {w : World} {v : Value} {L : List (List (List Int))} {U : Nat → Value} {V : Nat → Nat → Value} (h : OwnS b w v L U V) (k : b' ≤ b) : OwnS b' w v L U V :=
  ⟨⟨h.1.1, h.1.2.imp id fun ⟨g, cap, cur, h1, h2, h3⟩ => ⟨g, cap, cur, h1, Nat.le_trans k h2, h3⟩⟩, fun j hj => (h.2.1 j hj).low k, h.2.2⟩
theorem OwnS.nil (b : Nat) (w : World) (U : Nat → Value) (V : Nat → Nat → Value) : OwnS b w (.slice none 0 0) [] U V :=
  ⟨World.ownsRow_nil _ _ _ _, fun j hj => absurd hj (by simp), fun i j hi => absurd hi (by simp)⟩
theorem OwnS.parts {b : Nat} {w : World} {v : Value} {L : List (List (List Int))} {U : Nat → Value} {V : Nat → Nat → Value} (h : OwnS b w v L U V) :
    ∃ A c, v = .slice A L.length c ∧ L.length ≤ c ∧ c ≤ maxLen ∧ (0 < L.length → ∃ g, A = some ⟨g, 0, none⟩ ∧ b ≤ g ∧ (∃ cur, w.heap[g]? = some (.cells cur 23 (0, 0))) ∧ ∀ i, i < L.length → w.cell? ⟨g, i, none⟩ = some (U i)) := by
  obtain ⟨h1, h2, h3⟩ := h
  rcases h1.2 with ⟨rfl, h0⟩ | ⟨g, cap, cur, rfl, hb, hg, hc, hm, hs, ht⟩
  · have h0 : L.length = 0 := by simpa using h0
    exact ⟨none, 0, by rw [h0], by omega, by unfold maxLen; omega, fun h => absurd h (by omega)⟩
  · simp only [List.length_map, List.length_range, Nat.mul_one] at hc ht ⊢
    refine ⟨some ⟨g, 0, none⟩, cap, rfl, hc, hm, fun _ => ⟨g, rfl, hb, ⟨cur, hg⟩, fun i hi => ?_⟩⟩
    have e : (cur.toList.take L.length)[i]? = ((List.range L.length).map U)[i]? := by rw [ht]
    rw [List.getElem?_take, if_pos hi] at e
    rw [cell_cells hg, ← Array.getElem?_toList, e]
    simp [hi]
theorem OwnS.mats {b : Nat} {w : World} {v : Value} {L : List (List (List Int))} {U : Nat → Value} {V : Nat → Nat → Value} (h : OwnS b w v L U V) : ∃ A c, v = .slice A L.length c ∧ MatS w A c L := by
  obtain ⟨A, c, e, h1, h2, h3⟩ := h.parts
  refine ⟨A, c, e, h1, h2, ?_⟩
  by_cases h0 : 0 < L.length
  · obtain ⟨g, rfl, -, -, hc⟩ := h3 h0
    refine ⟨g, 0, fun _ => rfl, fun i hi => ?_⟩
    obtain ⟨Ar, cr, eu, hM⟩ := (h.2.1 i hi).mat
    exact ⟨Ar, cr, by rw [Nat.zero_add, hc i hi, eu], hM⟩
  · exact ⟨0, 0, fun q => absurd q h0, fun i hi => absurd hi (by omega)⟩
theorem nth_app {L : List (List (List Int))} {E : List (List Int)} {i : Nat} : nth (L ++ [E]) i = if i = L.length then E else nth L i := by
  unfold nth
  by_cases h : i < L.length
  · rw [if_neg (by omega)]; simp [List.getD, List.getElem?_append_left h]
  · by_cases e : i = L.length
    · subst e; simp
    · rw [if_neg e]
      have h1 : (L ++ [E])[i]? = none := List.getElem?_eq_none (by simp; omega)
      have h2 : L[i]? = none := List.getElem?_eq_none (by omega)
      simp [List.getD, h1, h2]
theorem Beside.keepR {v : Value} {W W' : World} {b : Nat} {n : Nat} {xs : List Value} (h : Beside v W W') (ho : W.ownsRow b 23 1 v n xs) {g : Nat} {cs : Array Value} {t : TypeId} {fz : Nat × Nat} (hg : W.heap[g]? = some (.cells cs t fz)) (ht : t ≠ 23) : W'.heap[g]? = W.heap[g]? := by
  rw [hg]
  exact h.block ho (fun e => ht e.symm) hg
/-- one space more -/
theorem ownS_pushS {P : Program} {w0 W : World} {T E ty : TypeId} (hE : E = 23)
    (ht : P.underlying T = some (.slice E)) (hinfo : (P.info? E).map (fun i => (i.zero, i.size, i.bytes)) = some (some (.slice none 0 0), 1, 24))
    {v u : Value} {L : List (List (List Int))} {U : Nat → Value} {V : Nat → Nat → Value} {X : List (List Int)} {Z : Nat → Value} {ad : Addr} {c : Nat} (had : ad.spot = none) (hc : W.cell? ad = some u) (hx : Ext w0 W)
    (hS : OwnS w0.heap.size W v L U V) (hM : OwnM w0.heap.size W u X Z) (hfr : ∀ p, p < X.length → ∀ j, j < L.length → ∀ q, q < (nth L j).length → ∀ g ∈ lb (Z p), g ∉ lb (V j q)) (hl : L.length ≤ 1000) :
    ∃ v' w', (Builtin.append_ #[T, T] ty #[v, .slice (some ad) 1 c]).run P W = .ok v' w' ∧
      (Ext w0 w' ∧ OwnS w0.heap.size w' v' (L ++ [X]) (fun j => if j = L.length then u else U j) (fun j => if j = L.length then Z else V j) ∧ W.heap.size ≤ w'.heap.size ∧
        (∀ (g : Nat) (cs : Array Value) (t : TypeId) (fz : Nat × Nat), W.heap[g]? = some (.cells cs t fz) → t ≠ 23 → w'.heap[g]? = W.heap[g]?) ∧ Beside v W w' ∧ Stays v v' W.heap.size) := by
  subst hE
  obtain ⟨hA, h2, h3⟩ := hS
  have hu1 : u.oneCell' = true := by
    obtain ⟨A, c, rfl, -⟩ := hM.mat
    rfl
  obtain ⟨v', w', hrun, ⟨ha1, ha2⟩, hb, hst⟩ := app_run (w0 := w0) (ty := ty) ht hinfo rfl (by decide) v _ ad 1 c [u] rfl (one_news hc had) (by simpa using hu1) ⟨hx, hA⟩ (by simp; omega)
  have hkeep : ∀ (g : Nat) (cs : Array Value) (t : TypeId) (fz : Nat × Nat), W.heap[g]? = some (.cells cs t fz) → t ≠ 23 → w'.heap[g]? = W.heap[g]? := fun g cs t fz hg ht => hb.keepR hA hg ht
  have hkM : ∀ {y : Value} {D : List (List Int)} {Y : Nat → Value}, OwnM w0.heap.size W y D Y → OwnM w0.heap.size w' y D Y := fun hy =>
    hy.keepR fun g cs t _ hg ht => hkeep g cs t _ hg (by rcases ht with h | h <;> (rw [h]; decide))
  refine ⟨v', w', hrun, ha1, ⟨?_, fun j hj => ?_, fun i j hi hj hij p hp q hq g hg hg' => ?_⟩, hb.1, hkeep, hb, hst⟩
  · have e : (List.range (L ++ [X]).length).map (fun i => if i = L.length then u else U i) = (List.range L.length).map U ++ [u] := by
      rw [List.length_append, List.length_singleton, List.range_succ, List.map_append]
      congr 1
      · refine List.map_congr_left fun i hi => ?_
        have := List.mem_range.1 hi
        rw [if_neg (by omega)]
      · simp
    rw [e]; exact ha2
  · simp only [List.length_append, List.length_singleton] at hj
    rw [nth_app]
    by_cases e : j = L.length
    · simp only [if_pos e]; exact hkM hM
    · simp only [if_neg e]; exact hkM (h2 j (by omega))
  · simp only [List.length_append, List.length_singleton] at hi hj
    rw [nth_app] at hp hq
    by_cases e : i = L.length
    · have e2 : ¬ j = L.length := by omega
      simp only [if_pos e] at hg hp
      simp only [if_neg e2] at hg' hq
      exact hfr p hp j (by omega) q hq g hg hg'
    · simp only [if_neg e] at hg hp
      by_cases e2 : j = L.length
      · simp only [if_pos e2] at hg' hq
        exact hfr q hq i (by omega) p hp g hg' hg
      · simp only [if_neg e2] at hg' hq
        exact h3 i j (by omega) (by omega) hij p hp q hq g hg hg'
theorem ownS_push {P : Program} {w0 W : World} {T E ty : TypeId} (hE : E = 23)
    (ht : P.underlying T = some (.slice E)) (hinfo : (P.info? E).map (fun i => (i.zero, i.size, i.bytes)) = some (some (.slice none 0 0), 1, 24))
    {v u : Value} {L : List (List (List Int))} {U : Nat → Value} {V : Nat → Nat → Value} {X : List (List Int)} {Z : Nat → Value} {ad : Addr} {c : Nat} (had : ad.spot = none) (hc : W.cell? ad = some u) (hx : Ext w0 W)
    (hS : OwnS w0.heap.size W v L U V) (hM : OwnM w0.heap.size W u X Z) (hfr : ∀ p, p < X.length → ∀ j, j < L.length → ∀ q, q < (nth L j).length → ∀ g ∈ lb (Z p), g ∉ lb (V j q)) (hl : L.length ≤ 1000) :
    ∃ v' w', (Builtin.append_ #[T, T] ty #[v, .slice (some ad) 1 c]).run P W = .ok v' w' ∧
      (Ext w0 w' ∧ OwnS w0.heap.size w' v' (L ++ [X]) (fun j => if j = L.length then u else U j) (fun j => if j = L.length then Z else V j) ∧ W.heap.size ≤ w'.heap.size ∧
        (∀ (g : Nat) (cs : Array Value) (t : TypeId) (fz : Nat × Nat), W.heap[g]? = some (.cells cs t fz) → t ≠ 23 → w'.heap[g]? = W.heap[g]?) ∧ Beside v W w') := by
  obtain ⟨v', w', h1, h2, h3, h4, h5, h6, -⟩ := ownS_pushS (ty := ty) hE ht hinfo had hc hx hS hM hfr hl
  exact ⟨v', w', h1, h2, h3, h4, h5, h6⟩
/-- a desk of one's own -/
def OwnDk (b : Nat) (W : World) (v : Value) (D : List (List Int)) (L : List (List (List Int))) : Prop :=
  ∃ v1 v2 Z U V, v = .agg #[v1, v2] ∧ OwnM b W v1 D Z ∧ OwnS b W v2 L U V ∧ ∀ p, p < D.length → ∀ j, j < L.length → ∀ q, q < (nth L j).length → ∀ g ∈ lb (Z p), g ∉ lb (V j q)
theorem OwnDk.keep {b : Nat} {w w' : World} {v : Value} {D : List (List Int)} {L : List (List (List Int))} (h : OwnDk b w v D L) (k : KeepB b w w') : OwnDk b w' v D L := by
  obtain ⟨v1, v2, Z, U, V, e, h1, h2, h3⟩ := h
  exact ⟨v1, v2, Z, U, V, e, h1.keep k, h2.keep k, h3⟩
theorem OwnDk.low {b b' : Nat} {w : World} {v : Value} {D : List (List Int)} {L : List (List (List Int))} (h : OwnDk b w v D L) (k : b' ≤ b) : OwnDk b' w v D L := by
  obtain ⟨v1, v2, Z, U, V, e, h1, h2, h3⟩ := h
  exact ⟨v1, v2, Z, U, V, e, h1.low k, h2.low k, h3⟩
/-- a desk to be read -/
def DeskM (W : World) (v : Value) (D : List (List Int)) (L : List (List (List Int))) : Prop :=
  ∃ A c B d, v = .agg #[.slice A D.length c, .slice B L.length d] ∧ Mat W A c D ∧ MatS W B d L
theorem DeskM.ext {W W' : World} {v : Value} {D : List (List Int)} {L : List (List (List Int))} (h : DeskM W v D L) (k : Ext W W') : DeskM W' v D L := by
  obtain ⟨A, c, B, d, e, h1, h2⟩ := h
  exact ⟨A, c, B, d, e, h1.ext k, h2.ext k⟩
theorem OwnDk.desk {b : Nat} {w : World} {v : Value} {D : List (List Int)} {L : List (List (List Int))} (h : OwnDk b w v D L) : DeskM w v D L := by
  obtain ⟨v1, v2, Z, U, V, e, h1, h2, h3⟩ := h
  obtain ⟨A, c, rfl, hM⟩ := h1.mat
  obtain ⟨B, d, rfl, hS⟩ := h2.mats
  exact ⟨A, c, B, d, e, hM, hS⟩
theorem OwnS.mats_of {b : Nat} {w : World} {A : Option Addr} {n c : Nat} {L : List (List (List Int))} {U : Nat → Value} {V : Nat → Nat → Value} (h : OwnS b w (.slice A n c) L U V) : n = L.length ∧ MatS w A c L := by
  obtain ⟨A', c', e, hM⟩ := h.mats
  injection e with e1 e2 e3
  subst e1; subst e3
  exact ⟨e2, hM⟩
end Go.Proofs.YtnalcgcdohlfiaaGreatDoor
namespace Go.Proofs.YtnalcgcdohlfiaaGreatDoor
open Go.RowKit
def SmM (D : List (List Int)) : Prop := D.length ≤ 1000 ∧ ∀ i, i < D.length → (row D i).length ≤ 1000
def SmD (D : List (List Int)) (L : List (List (List Int))) : Prop := SmM D ∧ L.length ≤ 100 ∧ ∀ i, i < L.length → SmM (nth L i)
def CopyD (w : World) (D : List (List Int)) (L : List (List (List Int))) (e : Ending) (w' : World) : Prop := ∃ v, e = .returned v ∧ OwnDk w.heap.size w' v D L ∧ Ext w w'
theorem take_nth {L : List (List (List Int))} {i : Nat} (h : i < L.length) : L.take (i + 1) = L.take i ++ [nth L i] := by
  rw [List.take_succ_eq_append_getElem h, nth_of h]
/-- the copying under way: m1 the argument, m2 the result, m3 the copy -/
def CdS (w : World) (m1 m2 m3 : Nat) (a b : Value) (v1 : Value) (D : List (List Int)) (L : List (List (List Int))) (k : Nat) (vk : Value) (W : World) : Prop :=
  Ext w W ∧ w.heap.size ≤ m1 ∧ m1 < m2 ∧ m2 < m3 ∧ W.heap[m1]? = some (.cells #[a, b] 26 (0, 0)) ∧ W.heap[m2]? = some (.cells #[.slice none 0 0, .slice none 0 0] 26 (0, 0)) ∧ W.heap[m3]? = some (.cells #[v1, vk] 26 (0, 0)) ∧
    ∃ Z U V, OwnM w.heap.size W v1 D Z ∧ OwnS w.heap.size W vk (L.take k) U V ∧ ∀ p, p < D.length → ∀ j, j < (L.take k).length → ∀ q, q < (nth (L.take k) j).length → ∀ g ∈ lb (Z p), g ∉ lb (V j q)
theorem CdS.push {P : Program} {w : World} {m1 m2 m3 : Nat} {a b v1 vk : Value} {D : List (List Int)} {L : List (List (List Int))} {k : Nat} {wr W : World} {T E ty : TypeId} (hE : E = 23)
    (ht : P.underlying T = some (.slice E)) (hinfo : (P.info? E).map (fun i => (i.zero, i.size, i.bytes)) = some (some (.slice none 0 0), 1, 24)) {u : Value} {c : Nat}
    (h : CdS w m1 m2 m3 a b v1 D L k vk wr) (hk : k < L.length) (hl : L.length ≤ 100) (hA : AccR wr W u (nth L k)) :
    ∃ v' w', (Builtin.append_ #[T, T] ty #[vk, .slice (some ⟨W.heap.size, 0, none⟩) 1 c]).run P (W.alloc (.cells #[u] E)) = .ok v' w' ∧
      ∃ A c', v' = .slice A (k + 1) c' ∧ w'.cell? ⟨m3, 1, none⟩ = some vk ∧ w'.frozen? ⟨m3, 1, none⟩ = false ∧ CdS w m1 m2 m3 a b v1 D L (k + 1) v' (w'.setCell ⟨m3, 1, none⟩ v') := by
  obtain ⟨hx, g1, g2, g3, b1, b2, b3, Z, U, V, hM, hS, hcr⟩ := h
  obtain ⟨Y, hY⟩ := hA
  have hxW : Ext wr (W.alloc (.cells #[u] E)) := hY.x.trans (Ext.alloc _ _)
  have kb := KeepB.of_ext (b := w.heap.size) hxW
  have hYo : OwnM w.heap.size (W.alloc (.cells #[u] E)) u (nth L k) Y := (hY.own.keep (KeepB.of_ext (Ext.alloc _ _))).low hx.size
  have hYge := hY.2.2.2
  have hlt3 := heap_lt b3
  obtain ⟨v', w', hrun, hx', hS', hsz, hkeep, -⟩ := ownS_push (w0 := w) (ty := ty) hE ht hinfo (ad := ⟨W.heap.size, 0, none⟩) (c := c) rfl (cell_new0 W u E) (hx.trans hxW) (hS.keep kb) hYo (fun p hp j hj q hq g hg hg' => by
    have := hYge p hp g hg
    have := (hS.2.1 j hj).lt hq hg'
    omega) (by rw [List.length_take]; omega)
  obtain ⟨A, c', hv, -⟩ := hS'.mats
  have hlen : (L.take k ++ [nth L k]).length = k + 1 := by rw [List.length_append, List.length_take, List.length_singleton]; omega
  rw [hlen] at hv
  have c1 := (hkeep m1 _ _ _ ((hxW.block (heap_lt b1)).trans b1) (by decide)).trans ((hxW.block (heap_lt b1)).trans b1)
  have c2 := (hkeep m2 _ _ _ ((hxW.block (heap_lt b2)).trans b2) (by decide)).trans ((hxW.block (heap_lt b2)).trans b2)
  have c3 := (hkeep m3 _ _ _ ((hxW.block (heap_lt b3)).trans b3) (by decide)).trans ((hxW.block (heap_lt b3)).trans b3)
  have ks : KeepB w.heap.size w' (w'.setCell ⟨m3, 1, none⟩ v') := KeepB.set (p := ⟨m3, 1, none⟩) c3 (by decide) _
  have hM' : OwnM w.heap.size w' v1 D Z := (hM.keep kb).keepR fun g cs t _ hg ht => hkeep g cs t _ hg (by rcases ht with h | h <;> (rw [h]; decide))
  refine ⟨v', w', hrun, A, c', hv, by rw [cell_cells c3]; rfl, frozen_cells c3 1, hx'.setCell' (by show w.heap.size ≤ m3; omega) _, g1, g2, g3, ?_, ?_, set_1 c3, Z, _, _, hM'.keep ks, by rw [take_nth hk]; exact hS'.keep ks, fun p hp j hj q hq g hg hg' => ?_⟩
  · rw [Below.heap_setCell _ _ _ _ (by show m1 ≠ m3; omega)]; exact c1
  · rw [Below.heap_setCell _ _ _ _ (by show m2 ≠ m3; omega)]; exact c2
  · rw [take_nth hk] at hj hq
    rw [hlen] at hj
    rw [nth_app] at hq
    have hlt : (L.take k).length = k := by rw [List.length_take]; omega
    rw [hlt] at hq hg'
    by_cases e : j = k
    · simp only [if_pos e] at hg' hq
      have := hYge q hq g hg'
      have := hM.lt hp hg
      omega
    · simp only [if_neg e] at hg' hq
      exact hcr p hp j (by rw [hlt]; omega) q hq g hg hg'
theorem CdS.start {w w1 : World} {a b v1 : Value} {D : List (List Int)} {L : List (List (List Int))} {o2 : Obj} (ho : o2 = .cells #[.slice none 0 0, .slice none 0 0] 26) (h : AccR ((w.alloc (.cells #[a, b] 26)).alloc o2) w1 v1 D) :
    CdS w w.heap.size (w.heap.size + 1) w1.heap.size a b v1 D L 0 (.slice none 0 0) (w1.alloc (.cells #[v1, .slice none 0 0] 26)) := by
  subst ho
  obtain ⟨b1, b2, hx, hs⟩ := two_blocks h.x
  obtain ⟨Z, hZ⟩ := h
  have hn := Ext.alloc w1 (.cells #[v1, .slice none 0 0] 26)
  refine ⟨hx.trans hn, Nat.le_refl _, by omega, by omega, (hn.block (by omega)).trans b1, (hn.block (by omega)).trans b2, heap_alloc_new w1 _, Z, fun _ => .slice none 0 0, fun _ _ => .slice none 0 0, (hZ.own.low (by simp; omega)).keep (KeepB.of_ext hn), OwnS.nil _ _ _ _, fun p hp j hj => absurd hj (by simp)⟩
theorem CdS.arg {w W : World} {m1 m2 m3 : Nat} {a b v1 vk : Value} {D : List (List Int)} {L : List (List (List Int))} {k : Nat} (h : CdS w m1 m2 m3 a b v1 D L k vk W) : W.cell? ⟨m1, 0, none⟩ = some a ∧ W.cell? ⟨m1, 1, none⟩ = some b := ⟨by rw [cell_cells h.2.2.2.2.1]; rfl, by rw [cell_cells h.2.2.2.2.1]; rfl⟩
theorem CdS.now {w W : World} {m1 m2 m3 : Nat} {a b v1 vk : Value} {D : List (List Int)} {L : List (List (List Int))} {k : Nat} (h : CdS w m1 m2 m3 a b v1 D L k vk W) : W.cell? ⟨m3, 0, none⟩ = some v1 ∧ W.cell? ⟨m3, 1, none⟩ = some vk := ⟨by rw [cell_cells h.2.2.2.2.2.2.1]; rfl, by rw [cell_cells h.2.2.2.2.2.2.1]; rfl⟩
theorem CdS.past {w W : World} {m1 m2 m3 : Nat} {a b v1 vk : Value} {D : List (List Int)} {L : List (List (List Int))} {k : Nat} (h : CdS w m1 m2 m3 a b v1 D L k vk W) (hk : k ≤ L.length) : ∃ A c, vk = .slice A k c := by
  obtain ⟨-, -, -, -, -, -, -, Z, U, V, -, hS, -⟩ := h
  obtain ⟨A, c, e, -⟩ := hS.mats
  rw [List.length_take] at e
  exact ⟨A, c, by rw [e, show min k L.length = k by omega]⟩
/-- the copy is done: the result's cells set -/
theorem CdS.done {w W : World} {m1 m2 m3 : Nat} {a b v1 v2 : Value} {D : List (List Int)} {L : List (List (List Int))} (h : CdS w m1 m2 m3 a b v1 D L L.length v2 W) :
    W.cell? ⟨m2, 0, none⟩ = some (.slice none 0 0) ∧ W.frozen? ⟨m2, 0, none⟩ = false ∧ (W.setCell ⟨m2, 0, none⟩ v1).cell? ⟨m2, 1, none⟩ = some (.slice none 0 0) ∧ (W.setCell ⟨m2, 0, none⟩ v1).frozen? ⟨m2, 1, none⟩ = false ∧
      ((W.setCell ⟨m2, 0, none⟩ v1).setCell ⟨m2, 1, none⟩ v2).cell? ⟨m2, 0, none⟩ = some v1 ∧ ((W.setCell ⟨m2, 0, none⟩ v1).setCell ⟨m2, 1, none⟩ v2).cell? ⟨m2, 1, none⟩ = some v2 ∧
      OwnDk w.heap.size ((W.setCell ⟨m2, 0, none⟩ v1).setCell ⟨m2, 1, none⟩ v2) (.agg #[v1, v2]) D L ∧ Ext w ((W.setCell ⟨m2, 0, none⟩ v1).setCell ⟨m2, 1, none⟩ v2) := by
  obtain ⟨hx, g1, g2, g3, b1, b2, b3, Z, U, V, hM, hS, hcr⟩ := h
  rw [List.take_of_length_le (Nat.le_refl _)] at hS hcr
  have s0 := set_0 (u := v1) b2
  have s1 := set_1 (u := v2) s0
  have k := (KeepB.set (b := w.heap.size) (p := ⟨m2, 0, none⟩) b2 (by decide) v1).trans (KeepB.set (p := ⟨m2, 1, none⟩) s0 (by decide) v2)
  exact ⟨by rw [cell_cells b2]; rfl, frozen_cells b2 0, by rw [cell_cells s0]; rfl, frozen_cells s0 1, by rw [cell_cells s1]; rfl, by rw [cell_cells s1]; rfl, ⟨v1, v2, Z, U, V, rfl, hM.keep k, hS.keep k, hcr⟩, (hx.setCell' (by show w.heap.size ≤ m2; omega) _).setCell' (by show w.heap.size ≤ m2; omega) _⟩
set_option maxRecDepth 100000 in
set_option maxHeartbeats 4000000 in
theorem copyDesk_any (A B : Option Addr) (c d : Nat) (D : List (List Int)) (L : List (List (List Int))) (w : World) (h1 : Mat w A c D) (h2 : MatS w B d L) (hz : SmD D L) :
    Calls Tryz.prog 19 #[.agg #[.slice A D.length c, .slice B L.length d]] w (CopyD w D L) := by
  have H1 := Lib.hid h1
  have H2 := Lib.hid h2
  have lB := h2.1
  have mB := h2.2.1
  unfold maxLen at mB
  obtain ⟨bS, oS, R, rc, hB, hrow, -, hmat⟩ := h2.parts
  have HC := Lib.hid (fun W (q : Mat W A c D) => copyRows_any A c D W q hz.1.1 hz.1.2)
  have HCL := Lib.hid (fun i (hi : i < L.length) W (q : Ext w W) => copyRows_any (R i) (rc i) (nth L i) W ((hmat i hi).ext q) (hz.2.2 i hi).1 (hz.2.2 i hi).2)
  have HROW := Lib.hid hrow
  have hl100 := hz.2.1
  have HTF := Lib.hid (show L.take L.length = L from List.take_of_length_le (Nat.le_refl _))
  have HLN := Lib.hid (fun i (hi : i < L.length) => hz.2.2 i hi)
  clear h1 h2 hz hrow hmat
  go_enter Tryz.func19, Tryz.ntmps19
  go_wp2_with fail
  refine (HC.out _ (H1.out.ext (by repeat (first | exact Ext.refl _ | assumption | apply Ext.drewN' | apply Ext.alloc' | refine Ext.trans ?_ (by assumption))))).mono ?_
  rintro e w1 ⟨v1, rfl, hA1⟩
  obtain ⟨A1, c1, rfl, -⟩ := hA1.mat
  have hx1 := hA1.x
  have HS0 := Lib.hid (CdS.start (L := L) rfl hA1)
  obtain ⟨q0, q1⟩ := HS0.out.arg
  clear hA1
  go_wp2_with fail
  obtain ⟨wz, hwz⟩ : ∃ wz, w1.alloc (.cells #[.slice A1 D.length c1, .slice none 0 0] 26) = wz := ⟨_, rfl⟩
  rw [hwz] at HS0
  rw [hwz]
  have hm1 : w1.heap.size = w1.heap.size := rfl
  obtain ⟨m3, hm3⟩ : ∃ m3, w1.heap.size = m3 := ⟨_, rfl⟩
  rw [hm3] at HS0
  rw [hm3]
  clear hwz q0 q1 hm3 hm1
  go_loopg [13] L.length (fun g s13 wr => ∃ (k : Nat) (vk : Value), k + g = L.length ∧ s13 = .int .i64 k ∧ Hid (CdS w w.heap.size (w.heap.size + 1) m3 (.slice A D.length c) (.slice B L.length d) (.slice A1 D.length c1) D L k vk wr))
  case atStart => exact ⟨0, _, by omega, rfl, HS0⟩
  case round =>
    obtain ⟨k, vk, hk, rfl, HS⟩ := hrel
    clear HS0
    by_cases hin : k < L.length
    · obtain ⟨gk1, rfl⟩ : ∃ g', gk = g' + 1 := ⟨gk - 1, by omega⟩
      have hin' : (k : Int) < (L.length : Nat) := by omega
      obtain rfl := hB (by omega)
      have hxr := HS.out.1
      have c1' := hxr.cell (HROW.out k hin)
      obtain ⟨q0, q1⟩ := HS.out.now
      obtain ⟨Ak, ck, rfl⟩ := HS.out.past (by omega)
      have HCk := Lib.hid (fun W (q : Ext wr W) => HCL.out k hin W (hxr.trans q))
      have HPU := Lib.hid (fun ty u cc W (q : AccR wr W u (nth L k)) => HS.out.push (P := Tryz.prog) (W := W) (u := u) (c := cc) (ty := ty) rfl Tryz.underlying24 infoM hin hl100 q)
      have HXR := Lib.hid hxr
      have hln := (HLN.out k hin).1
      have HQ1 := Lib.hid (fun W (q : Ext wr W) => q.cell q1)
      obtain ⟨ln, hln'⟩ : ∃ n, (nth L k).length = n := ⟨_, rfl⟩
      rw [hln'] at c1' HCk hln
      clear HS hln' hxr
      go_wp2_with fail
      go_region_law (first
        | (refine step_ex rfl _ _ rfl (.slice Ak k ck) (.slice (some ⟨_, 0, none⟩) 1 1) rfl rfl (HPU.out _ _ 1 w2 (hA.low (Ext.drewN wr 1))) ?_; rintro v9 w9 ⟨A9, c9, rfl, y1, y2, y3⟩)
        | (go_simp; go_at_call 34; refine (HCk.out wr.drew (Ext.drewN wr 1)).mono ?_; rintro e w2 ⟨u, rfl, hA⟩; obtain ⟨Au, cu, rfl, -⟩ := hA.mat; have hx2 : Ext wr.drew w2 := hA.x; have z1 := HQ1.out _ ((Ext.drewN wr 1).trans hx2); have z2 := HQ1.out _ (((Ext.drewN wr 1).trans hx2).alloc' (.cells #[.slice Au (nth L k).length cu] 23))))
      all_goals
        go_wp2
        go_roundg gk1
        case measure => omega
        case rel => exact ⟨k + 1, _, by omega, by go_num, Lib.hid y3⟩
    · have hin' : ¬ (k : Int) < (L.length : Nat) := by omega
      obtain rfl : gk = 0 := by omega
      obtain rfl : k = L.length := by omega
      obtain ⟨q0, q1⟩ := HS.out.now
      obtain ⟨Ak, ck, rfl⟩ := HS.out.past (Nat.le_refl _)
      obtain ⟨f1, f2, f3, f4, f5, f6, f7, f8⟩ := HS.out.done
      have HF := Lib.hid (And.intro f7 f8)
      clear HS f7 f8
      go_wp2
      refine bodyPost_ret (v := .agg #[.slice A1 D.length c1, .slice Ak L.length ck]) (by simp [results, Tryz.results19, go_sem, f5, f6]) rfl ⟨_, rfl, HF.out.1, HF.out.2⟩
set_option maxRecDepth 100000 in
set_option maxHeartbeats 4000000 in
theorem l11Copy_any (A B : Option Addr) (c d : Nat) (D : List (List Int)) (L : List (List (List Int))) (w : World) (h1 : Mat w A c D) (h2 : MatS w B d L) (hz : SmD D L) :
    Calls Tryz.prog 21 #[.agg #[.slice A D.length c, .slice B L.length d]] w (CopyD w D L) := by
  have H1 := Lib.hid h1
  have H2 := Lib.hid h2
  have lB := h2.1
  have mB := h2.2.1
  unfold maxLen at mB
  obtain ⟨bS, oS, R, rc, hB, hrow, -, hmat⟩ := h2.parts
  have HC := Lib.hid (fun W (q : Mat W A c D) => l2Copy_any A c D W q hz.1.1 hz.1.2)
  have HCL := Lib.hid (fun i (hi : i < L.length) W (q : Ext w W) => l2Copy_any (R i) (rc i) (nth L i) W ((hmat i hi).ext q) (hz.2.2 i hi).1 (hz.2.2 i hi).2)
  have HROW := Lib.hid hrow
  have hl100 := hz.2.1
  have HTF := Lib.hid (show L.take L.length = L from List.take_of_length_le (Nat.le_refl _))
  have HLN := Lib.hid (fun i (hi : i < L.length) => hz.2.2 i hi)
  clear h1 h2 hz hrow hmat
  go_enter Tryz.func21, Tryz.ntmps21
  go_wp2_with fail
  refine (HC.out _ (H1.out.ext (by repeat (first | exact Ext.refl _ | assumption | apply Ext.drewN' | apply Ext.alloc' | refine Ext.trans ?_ (by assumption))))).mono ?_
  rintro e w1 ⟨v1, rfl, hA1⟩
  obtain ⟨A1, c1, rfl, -⟩ := hA1.mat
  have hx1 := hA1.x
  have HS0 := Lib.hid (CdS.start (L := L) rfl hA1)
  obtain ⟨q0, q1⟩ := HS0.out.arg
  clear hA1
  go_wp2_with fail
  obtain ⟨wz, hwz⟩ : ∃ wz, w1.alloc (.cells #[.slice A1 D.length c1, .slice none 0 0] 26) = wz := ⟨_, rfl⟩
  rw [hwz] at HS0
  rw [hwz]
  have hm1 : w1.heap.size = w1.heap.size := rfl
  obtain ⟨m3, hm3⟩ : ∃ m3, w1.heap.size = m3 := ⟨_, rfl⟩
  rw [hm3] at HS0
  rw [hm3]
  clear hwz q0 q1 hm3 hm1
  go_loopg [4] L.length (fun g s4 wr => ∃ (k : Nat) (vk : Value), k + g = L.length ∧ s4 = .int .i64 k ∧ Hid (CdS w w.heap.size (w.heap.size + 1) m3 (.slice A D.length c) (.slice B L.length d) (.slice A1 D.length c1) D L k vk wr))
  case atStart => exact ⟨0, _, by omega, rfl, HS0⟩
  case round =>
    obtain ⟨k, vk, hk, rfl, HS⟩ := hrel
    clear HS0
    obtain ⟨qa, qb⟩ := HS.out.arg
    by_cases hin : k < L.length
    · obtain ⟨gk1, rfl⟩ : ∃ g', gk = g' + 1 := ⟨gk - 1, by omega⟩
      have hin' : (k : Int) < (L.length : Nat) := by omega
      obtain rfl := hB (by omega)
      have hxr := HS.out.1
      have c1' := hxr.cell (HROW.out k hin)
      obtain ⟨q0, q1⟩ := HS.out.now
      obtain ⟨Ak, ck, rfl⟩ := HS.out.past (by omega)
      have HCk := Lib.hid (fun W (q : Ext wr W) => HCL.out k hin W (hxr.trans q))
      have HPU := Lib.hid (fun ty u cc W (q : AccR wr W u (nth L k)) => HS.out.push (P := Tryz.prog) (W := W) (u := u) (c := cc) (ty := ty) rfl Tryz.underlying24 infoM hin hl100 q)
      have HXR := Lib.hid hxr
      have hln := (HLN.out k hin).1
      have HQ1 := Lib.hid (fun W (q : Ext wr W) => q.cell q1)
      obtain ⟨ln, hln'⟩ : ∃ n, (nth L k).length = n := ⟨_, rfl⟩
      rw [hln'] at c1' HCk hln
      clear HS hln' hxr
      go_wp2_with fail
      go_region_law (first
        | (refine step_ex rfl _ _ rfl (.slice Ak k ck) (.slice (some ⟨_, 0, none⟩) 1 1) rfl rfl (HPU.out _ _ 1 w2 (hA.low (Ext.drewN wr 1))) ?_; rintro v9 w9 ⟨A9, c9, rfl, y1, y2, y3⟩)
        | (go_simp; go_at_call 38; refine (HCk.out wr.drew (Ext.drewN wr 1)).mono ?_; rintro e w2 ⟨u, rfl, hA⟩; obtain ⟨Au, cu, rfl, -⟩ := hA.mat; have hx2 : Ext wr.drew w2 := hA.x; have z1 := HQ1.out _ ((Ext.drewN wr 1).trans hx2); have z2 := HQ1.out _ (((Ext.drewN wr 1).trans hx2).alloc' (.cells #[.slice Au (nth L k).length cu] 23))))
      all_goals
        go_wp2
        go_roundg gk1
        case measure => omega
        case rel => exact ⟨k + 1, _, by omega, by go_num, Lib.hid y3⟩
    · have hin' : ¬ (k : Int) < (L.length : Nat) := by omega
      obtain rfl : gk = 0 := by omega
      obtain rfl : k = L.length := by omega
      obtain ⟨q0, q1⟩ := HS.out.now
      obtain ⟨Ak, ck, rfl⟩ := HS.out.past (Nat.le_refl _)
      obtain ⟨f1, f2, f3, f4, f5, f6, f7, f8⟩ := HS.out.done
      have HF := Lib.hid (And.intro f7 f8)
      clear HS f7 f8
      go_wp2
      refine bodyPost_ret (v := .agg #[.slice A1 D.length c1, .slice Ak L.length ck]) (by simp [results, Tryz.results21, go_sem, f5, f6]) rfl ⟨_, rfl, HF.out.1, HF.out.2⟩
end Go.Proofs.YtnalcgcdohlfiaaGreatDoor
namespace Go.Proofs.YtnalcgcdohlfiaaGreatDoor
open Go.RowKit

/-- a desk of rows and without a past, in new memory -/
def FreshD (w : World) (D : List (List Int)) (e : Ending) (w' : World) : Prop :=
  ∃ A c V, e = .returned (.agg #[.slice A D.length c, .slice none 0 0]) ∧ MatL w' A c D V ∧ Dis D.length V ∧ (∀ i, i < D.length → ∀ g ∈ lb (V i), w.heap.size ≤ g) ∧ Ext w w'
theorem new_one (w W : World) (hw : W.heap.size = w.heap.size + 1) (hx : Ext w W) :
    let W' := (W.alloc (.cells #[.int .i64 0] 3)).alloc (.cells #[.slice (some ⟨w.heap.size + 1, 0, none⟩) 1 1] 47)
    MatL W' (some ⟨w.heap.size + 1 + 1, 0, none⟩) 1 [[0]] (fun _ => .slice (some ⟨w.heap.size + 1, 0, none⟩) 1 1) ∧ Ext w W' := by
  intro W'
  have h1 : (W.alloc (.cells #[.int .i64 0] 3)).heap[w.heap.size + 1]? = some (.cells #[.int .i64 0] 3 (0, 0)) := by rw [← hw]; exact heap_alloc_new W _
  have hz : (W.alloc (.cells #[.int .i64 0] 3)).heap.size = w.heap.size + 1 + 1 := by simp [hw]
  have h2 : W'.heap[w.heap.size + 1 + 1]? = some (.cells #[.slice (some ⟨w.heap.size + 1, 0, none⟩) 1 1] 47 (0, 0)) := by rw [← hz]; exact heap_alloc_new _ _
  have h3 : W'.heap[w.heap.size + 1]? = some (.cells #[.int .i64 0] 3 (0, 0)) := by rw [Ext.block (Ext.alloc _ _) (heap_lt h1)]; exact h1
  refine ⟨⟨Nat.le_refl _, by unfold maxLen; decide, w.heap.size + 1 + 1, 0, fun _ => ⟨rfl, _, _, h2⟩, fun i hi => ?_⟩, (hx.alloc' _).alloc' _⟩
  have e : i = 0 := by simp at hi; exact hi
  subst e
  refine ⟨by rw [cell_cells h2]; rfl, some ⟨w.heap.size + 1, 0, none⟩, 1, rfl, Nat.le_refl _, by unfold maxLen; decide, fun _ => ⟨w.heap.size + 1, _, rfl, h3, fun j hj => ?_⟩⟩
  have e : j = 0 := by have : j < 1 := hj; omega
  subst e
  rfl

set_option maxHeartbeats 1000000 in
theorem sDeskNew_any (w : World) : Calls Tryz.prog 26 #[] w (FreshD w [[0]]) := by
  go_enter Tryz.func26, Tryz.ntmps26
  go_wp2
  obtain ⟨h1, h2⟩ := new_one w (w.alloc (.cells #[.slice (some ⟨w.heap.size + 1 + 1, 0, none⟩) 1 1, .slice none 0 0] 26)) (by simp) (Ext.alloc _ _)
  refine bodyPost_ret (v := .agg #[.slice (some ⟨w.heap.size + 1 + 1, 0, none⟩) 1 1, .slice none 0 0]) (by simp [results, Tryz.results26, go_sem]) rfl ⟨_, 1, fun _ => .slice (some ⟨w.heap.size + 1, 0, none⟩) 1 1, rfl, h1, fun i j hi hj hij => ?_, fun i hi g hg => ?_, h2⟩
  · simp at hi hj; omega
  · simp [lb] at hg; omega
end Go.Proofs.YtnalcgcdohlfiaaGreatDoor
