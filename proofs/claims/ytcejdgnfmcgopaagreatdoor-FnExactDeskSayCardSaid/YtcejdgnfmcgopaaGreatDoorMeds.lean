/- What is proved: impl.MediansOf and spec.MediansOf return the same medians, as new memory. Conditions: sizes up to 2^20. -/
import Derived.Test.YtcejdgnfmcgopaaGreatDoorMid
import Derived.Test.YtcejdgnfmcgopaaGreatDoorPa
namespace Go.Proofs.YtcejdgnfmcgopaaGreatDoor
open Go.RowKit

theorem itR_inv {S : Type} {f : Nat → S → S} (P : Nat → S → Prop) : ∀ (g k : Nat) (s : S), P k s → (∀ j s, k ≤ j → j < k + g → P j s → P (j + 1) (f j s)) → P (k + g) (itR f g k s)
  | 0, _, _, h, _ => h
  | g + 1, k, s, h, hs => by
    have := itR_inv P g (k + 1) (f k s) (hs k s (Nat.le_refl _) (by omega) h) (fun j s h1 h2 h3 => hs j s (by omega) (by omega) h3)
    rw [show k + (g + 1) = k + 1 + g by omega]
    exact this
theorem sumP_bd {D : List (List Int)} {ws : List Int} {p : Nat} (hw : weightsB D ws = true) (hp : p < D.length) : 0 ≤ sumP D ws p ∧ sumP D ws p ≤ 3240 := by
  obtain ⟨hs, hl, hwt⟩ := weightsB_parts hw
  obtain ⟨⟨_, h6⟩, _, hc⟩ := farB_parts (spB_far hs)
  have := itR_inv (f := fun k s => s + ix ws k * at2 D p k) (fun j (s : Int) => 0 ≤ s ∧ s ≤ 540 * j) ws.length 0 0 (by omega) (fun j s _ hj h => by
    obtain ⟨q1, q2, _⟩ := hc p hp j (by omega)
    obtain ⟨q3, q4⟩ := hwt j (by omega)
    have := mul_bd q3 q4 q1 q2
    show 0 ≤ s + ix ws j * at2 D p j ∧ s + ix ws j * at2 D p j ≤ 540 * ((j + 1 : Nat) : Int)
    omega)
  unfold sumP
  omega

def leastS (D : List (List Int)) (ws : List Int) : Int := itR (fun i s => min s (sumP D ws i)) D.length 0 (sumP D ws 0)
def medP (D : List (List Int)) (ws : List Int) (i : Nat) : Bool := decide (sumP D ws i = leastS D ws)
def medsV (D : List (List Int)) (ws : List Int) : List Int := if weightsB D ws = true then selN (medP D ws) D.length else []

set_option maxRecDepth 100000 in
set_option maxHeartbeats 2000000 in
theorem mediansOf_any (A : Option Addr) (c : Nat) (D : List (List Int)) (B : Option Addr) (d : Nat) (ws : List Int) (w : World) (h : Mat w A c D) (hw : Ints w B d ws) (hW : weightsB D ws = true) :
    Calls Tryz.prog 124 #[.slice A D.length c, .slice B ws.length d] w (FreshI w (selN (medP D ws) D.length)) := by
  obtain ⟨hs, hl, hwt⟩ := weightsB_parts hW
  obtain ⟨n1, n6⟩ := spB_len hs
  have HM := Lib.hid h
  have HI := Lib.hid hw
  have HS := Lib.hid (fun p W (hp : p < D.length) (k1 : Mat W A c D) (k2 : Ints W B d ws) => sumFrom_any A c D B d ws p W k1 k2 hs (by omega) hwt hp)
  have HB := Lib.hid (fun p (hp : p < D.length) => sumP_bd hW hp)
  clear hs hl hwt hW h hw
  go_enter Tryz.func124, Tryz.ntmps124
  go_wp2_with fail
  refine (HS.out 0 _ (by omega) (HM.out.ext (by repeat (first | exact Ext.refl _ | assumption | apply Ext.drewN' | apply Ext.alloc' | refine Ext.trans ?_ (by assumption)))) (HI.out.ext (by repeat (first | exact Ext.refl _ | assumption | apply Ext.drewN' | apply Ext.alloc' | refine Ext.trans ?_ (by assumption))))).mono ?_
  rintro e w1 ⟨rfl, m1, rfl⟩
  go_wp2
  go_loopg [14, 5] (D.length) (fun g s14 s5 wr => ∃ (i m : Nat) (s : Int), i + g = D.length ∧ s14 = .int .i64 i ∧ s5 = .int .i64 s ∧ wr = w.drewN m ∧ Hid (itR (fun i s => min s (sumP D ws i)) g i s = leastS D ws))
  case atStart => exact ⟨0, _, _, by omega, rfl, rfl, by first | rfl | exact drewN_0 _ | exact drewN_add _ _ _, Lib.hid (rfl)⟩
  case round =>
    obtain ⟨i, mi, s, hi, rfl, rfl, rfl, Hi⟩ := hrel
    by_cases hini : i < D.length
    · obtain ⟨gi, rfl⟩ : ∃ g', gk = g' + 1 := ⟨gk - 1, by omega⟩
      have hini' : (i : Int) < (D.length : Nat) := by omega
      by_cases hle : s ≤ sumP D ws i
      · have HE := Lib.hid (Int.min_eq_left hle)
        go_wp2_with fail
        refine (HS.out i _ hini (HM.out.ext (by repeat (first | exact Ext.refl _ | assumption | apply Ext.drewN' | apply Ext.alloc' | refine Ext.trans ?_ (by assumption)))) (HI.out.ext (by repeat (first | exact Ext.refl _ | assumption | apply Ext.drewN' | apply Ext.alloc' | refine Ext.trans ?_ (by assumption))))).mono ?_
        rintro e w2 ⟨rfl, m2, rfl⟩
        go_wp2
        go_roundg gi
        case measure => omega
        case rel => exact ⟨i + 1, _, s, by omega, by go_num, by first | rfl | go_num, by first | rfl | exact drewN_0 _ | exact drewN_add _ _ _, Lib.hid (by rw [← Hi.out, itR, HE.out])⟩
      · have HE := Lib.hid (Int.min_eq_right (show sumP D ws i ≤ s by omega))
        go_wp2_with fail
        refine (HS.out i _ hini (HM.out.ext (by repeat (first | exact Ext.refl _ | assumption | apply Ext.drewN' | apply Ext.alloc' | refine Ext.trans ?_ (by assumption)))) (HI.out.ext (by repeat (first | exact Ext.refl _ | assumption | apply Ext.drewN' | apply Ext.alloc' | refine Ext.trans ?_ (by assumption))))).mono ?_
        rintro e w2 ⟨rfl, m2, rfl⟩
        go_wp2
        go_roundg gi
        case measure => omega
        case rel => exact ⟨i + 1, _, sumP D ws i, by omega, by go_num, by first | rfl | go_num, by first | rfl | exact drewN_0 _ | exact drewN_add _ _ _, Lib.hid (by rw [← Hi.out, itR, HE.out])⟩
    · have hini' : ¬ (i : Int) < (D.length : Nat) := by omega
      obtain rfl : gk = 0 := by omega
      have HL := Lib.hid (show s = leastS D ws from Hi.out)
      clear Hi
      go_wp2
      go_loopg [7, 27] D.length (fun g s7 s27 wr => ∃ (i : Nat), i + g = D.length ∧ s27 = .int .i64 i ∧ Col (medP D ws) w wr s7 g i (selN (medP D ws) D.length))
      case atStart => exact ⟨0, by omega, rfl, Col.start (by repeat (first | exact Ext.refl _ | assumption | apply Ext.drewN' | apply Ext.alloc' | refine Ext.trans ?_ (by assumption)))⟩
      case round =>
        obtain ⟨x, hi, rfl, hcol⟩ := hrel
        by_cases hin : x < D.length
        · obtain ⟨g', rfl⟩ : ∃ g', gk = g' + 1 := ⟨gk - 1, by omega⟩
          have hin' : (x : Int) < (D.length : Nat) := by omega
          have hx := hcol.x
          by_cases e : sumP D ws x = s
          · have e' : (sumP D ws x == s) = true := by simp [e]
            have HE := Lib.hid (show medP D ws x = true by unfold medP; rw [← HL.out]; exact decide_eq_true e)
            clear e
            go_wp2_with fail
            refine (HS.out x _ hin (HM.out.ext hx) (HI.out.ext hx)).mono ?_
            rintro e w2 ⟨rfl, m2, rfl⟩
            have hcol2 := hcol.on (Ext.drewN _ m2)
            go_wp2_with (at_builtin; refine Col.push rfl Tryz.underlying54 infoI rfl (.tmp 36) (.tmp 38) rfl _ rfl rfl hcol2 HE.out (by omega) ?_; intro v' w' hcol')
            go_roundg g'
            case measure => omega
            case rel => exact ⟨x + 1, by omega, by go_num, hcol'⟩
          · have e' : (sumP D ws x == s) = false := by simp [e]
            have HE := Lib.hid (show medP D ws x = false by unfold medP; rw [← HL.out]; exact decide_eq_false e)
            clear e
            go_wp2_with fail
            refine (HS.out x _ hin (HM.out.ext hx) (HI.out.ext hx)).mono ?_
            rintro e w2 ⟨rfl, m2, rfl⟩
            go_wp2
            go_roundg g'
            case measure => omega
            case rel => exact ⟨x + 1, by omega, by go_num, hcol.skip HE.out (Ext.drewN _ _)⟩
        · have hin' : ¬ (x : Int) < (D.length : Nat) := by omega
          obtain rfl : gk = 0 := by omega
          go_wp2
          go_ret
          exact hcol.done

/-- spec.MediansOf round by round: the best sum so far, and where it is met -/
def medStep (f : Nat → Int) (k : Nat) (s : Int × List Int) : Int × List Int :=
  if s.1 < 0 ∨ f k < s.1 then (f k, [(k : Int)]) else if f k = s.1 then (s.1, s.2 ++ [(k : Int)]) else s
def medG (f : Nat → Int) (g k : Nat) (b : Int) (xs : List Int) : List Int := (itR (medStep f) g k (b, xs)).2
theorem medG_new {f : Nat → Int} {g k : Nat} {b : Int} {xs : List Int} (h : b < 0 ∨ f k < b) : medG f (g + 1) k b xs = medG f g (k + 1) (f k) [(k : Int)] := by
  unfold medG; rw [itR]; simp only [medStep, if_pos h]
theorem medG_more {f : Nat → Int} {g k : Nat} {b : Int} {xs : List Int} (h : ¬ (b < 0 ∨ f k < b)) (e : f k = b) : medG f (g + 1) k b xs = medG f g (k + 1) b (xs ++ [(k : Int)]) := by
  unfold medG; rw [itR]; simp only [medStep, if_neg h, if_pos e]
theorem medG_skip {f : Nat → Int} {g k : Nat} {b : Int} {xs : List Int} (h : ¬ (b < 0 ∨ f k < b)) (e : ¬ f k = b) : medG f (g + 1) k b xs = medG f g (k + 1) b xs := by
  unfold medG; rw [itR]; simp only [medStep, if_neg h, if_neg e]
theorem selN_succ (p : Nat → Bool) (n : Nat) : selN p (n + 1) = selN p n ++ if p n = true then [(n : Int)] else [] := by
  rw [selN_eq, selN_eq, List.range_succ, List.filter_append, List.map_append]
  congr 1
  by_cases h : p n = true
  · simp [h]
  · simp [h]
theorem least_spec (f : Nat → Int) (n : Nat) (hn : 0 < n) : (∀ j, j < n → itR (fun i s => min s (f i)) n 0 (f 0) ≤ f j) ∧ ∃ j, j < n ∧ itR (fun i s => min s (f i)) n 0 (f 0) = f j := by
  have := itR_inv (f := fun i s => min s (f i)) (fun k (s : Int) => (∀ j, j < k → s ≤ f j) ∧ ∃ j, j < n ∧ s = f j) n 0 (f 0) ⟨fun j hj => absurd hj (by omega), 0, hn, rfl⟩ (fun k s _ hk h => by
    obtain ⟨h1, j, hj, h2⟩ := h
    refine ⟨fun i hi => ?_, ?_⟩
    · by_cases e : i = k
      · subst e; exact Int.min_le_right _ _
      · exact Int.le_trans (Int.min_le_left _ _) (h1 i (by omega))
    · rcases Int.le_total s (f k) with h | h
      · exact ⟨j, hj, by show min s (f k) = f j; rw [Int.min_eq_left h]; exact h2⟩
      · exact ⟨k, by omega, by show min s (f k) = f k; exact Int.min_eq_right h⟩)
  simpa using this
theorem med_same (f : Nat → Int) (n : Nat) (hn : 0 < n) (hf : ∀ j, j < n → 0 ≤ f j) : medG f n 0 (-1) [] = selN (fun i => decide (f i = itR (fun i s => min s (f i)) n 0 (f 0))) n := by
  obtain ⟨h1, j0, hj0, h2⟩ := least_spec f n hn
  have key := itR_inv (f := medStep f) (fun k (s : Int × List Int) => (k = 0 → s = (-1, [])) ∧ (0 < k → 0 ≤ s.1 ∧ (∀ j, j < k → s.1 ≤ f j) ∧ (∃ j, j < k ∧ s.1 = f j) ∧ s.2 = selN (fun j => decide (f j = s.1)) k)) n 0 (-1, [])
    ⟨fun _ => rfl, fun h => absurd h (by omega)⟩ (fun k s _ hk h => by
      refine ⟨fun h => absurd h (by omega), fun _ => ?_⟩
      have hfk := hf k (by omega)
      have hcase : s.1 < 0 ∨ 0 < k := by
        rcases Nat.eq_zero_or_pos k with e | e
        · left; rw [h.1 e]; decide
        · exact .inr e
      by_cases hb : s.1 < 0 ∨ f k < s.1
      · simp only [medStep, if_pos hb]
        have hk1 : ∀ j, j < k → f k < f j ∨ (k = 0) := fun j hj => by
          obtain ⟨_, q, _, _⟩ := h.2 (by omega)
          have := q j hj
          rcases hb with hb | hb
          · have := (h.2 (by omega)).1; omega
          · left; omega
        refine ⟨hfk, fun j hj => ?_, ⟨k, by omega, rfl⟩, ?_⟩
        · by_cases e : j = k
          · subst e; exact Int.le_refl _
          · rcases hk1 j (by omega) with h | h <;> omega
        · rw [selN_succ, selN_false' (fun j hj => by
            rcases hk1 j hj with h | h
            · exact decide_eq_false (by omega)
            · omega)]
          simp
      · have hk0 : 0 < k := by rcases hcase with h' | h'
                               · exact absurd (.inl h') hb
                               · exact h'
        obtain ⟨q1, q2, ⟨j, hj, q3⟩, q4⟩ := h.2 hk0
        by_cases e : f k = s.1
        · simp only [medStep, if_neg hb, if_pos e]
          refine ⟨q1, fun i hi => ?_, ⟨j, by omega, q3⟩, ?_⟩
          · by_cases e' : i = k
            · subst e'; omega
            · exact q2 i (by omega)
          · rw [selN_succ, if_pos (decide_eq_true e), ← q4]
        · simp only [medStep, if_neg hb, if_neg e]
          refine ⟨q1, fun i hi => ?_, ⟨j, by omega, q3⟩, ?_⟩
          · by_cases e' : i = k
            · subst e'; omega
            · exact q2 i (by omega)
          · rw [selN_succ, if_neg (by simpa using e), ← q4, List.append_nil])
  simp only [Nat.zero_add] at key
  obtain ⟨q1, q2, ⟨j, hj, q3⟩, q4⟩ := key.2 hn
  have e : (itR (medStep f) n 0 (-1, [])).1 = itR (fun i s => min s (f i)) n 0 (f 0) := by
    have a := q2 j0 hj0
    have b := h1 j hj
    omega
  unfold medG
  rw [q4, e]
where
  selN_false' {p : Nat → Bool} {n : Nat} (h : ∀ i, i < n → p i = false) : selN p n = [] := by
    rw [selN_eq, List.filter_eq_nil_iff.2 (fun x hx => by rw [h x (List.mem_range.1 hx)]; simp)]; rfl

def ColM (f : Nat → Int) (w0 W : World) (v : Value) (b : Int) (g k : Nat) (T : List Int) : Prop := ∃ xs : List Int, Acc w0 W 3 v (xs.map (Value.int .i64)) ∧ xs.length ≤ k ∧ medG f g k b xs = T

set_option maxRecDepth 100000 in
set_option maxHeartbeats 4000000 in
theorem sMediansOf_any (A : Option Addr) (c : Nat) (D : List (List Int)) (B : Option Addr) (d : Nat) (ws : List Int) (w : World) (h : Mat w A c D) (hw : Ints w B d ws) :
    Calls Tryz.prog 59 #[.slice A D.length c, .slice B ws.length d] w (FreshI w (medsV D ws)) := by
  have hcm := h.2.1
  have hlc := h.1
  unfold maxLen at hcm
  have HM := Lib.hid h
  have HI := Lib.hid hw
  have HV := Lib.hid (show medsV D ws = if weightsB D ws = true then selN (medP D ws) D.length else [] from rfl)
  have HC := Lib.hid (fun W (k1 : Mat W A c D) (k2 : Ints W B d ws) => sWeightsOk_any A c D B d ws W k1 k2)
  cases hW : weightsB D ws with
  | false =>
    rw [hW] at HC HV
    clear hW h hw
    by_cases h0 : 0 < D.length
    · have h0' : (0 : Int) < (D.length : Nat) := by omega
      go_enter Tryz.func59, Tryz.ntmps59
      go_wp2
      refine wp_loop_once ?_
      go_wp2_with fail
      refine (HC.out _ (HM.out.ext (by repeat (first | exact Ext.refl _ | assumption | apply Ext.drewN' | apply Ext.alloc' | refine Ext.trans ?_ (by assumption)))) (HI.out.ext (by repeat (first | exact Ext.refl _ | assumption | apply Ext.drewN' | apply Ext.alloc' | refine Ext.trans ?_ (by assumption))))).mono ?_
      rintro e w1 ⟨rfl, m1, rfl⟩
      go_wp2
      go_ret
      rw [HV.out]
      exact ⟨_, rfl, Leaf.nil _ _ _ (Nat.zero_le _), fun g hg => by simp [lb] at hg, (by repeat (first | exact Ext.refl _ | assumption | apply Ext.drewN' | apply Ext.alloc' | refine Ext.trans ?_ (by assumption)))⟩
    · have h0' : ¬ (0 : Int) < (D.length : Nat) := by omega
      go_enter Tryz.func59, Tryz.ntmps59
      go_wp2
      refine wp_loop_once ?_
      go_wp2
      go_ret
      rw [HV.out]
      exact ⟨_, rfl, Leaf.nil _ _ _ (Nat.zero_le _), fun g hg => by simp [lb] at hg, (by repeat (first | exact Ext.refl _ | assumption | apply Ext.drewN' | apply Ext.alloc' | refine Ext.trans ?_ (by assumption)))⟩
  | true =>
    obtain ⟨hs, hl, hwt⟩ := weightsB_parts hW
    obtain ⟨n1, n6⟩ := spB_len hs
    have HF := Lib.hid (show medsV D ws = medG (sumP D ws) D.length 0 (-1) [] by
      rw [HV.out, if_pos hW, med_same (sumP D ws) D.length (by omega) (fun j hj => (sumP_bd hW hj).1)]; rfl)
    have HS := Lib.hid (fun (p : Nat) W (hp : p < D.length) (k1 : Mat W A c D) (k2 : Ints W B d ws) => show Calls Tryz.prog 100 #[.slice A D.length c, .slice B ws.length d, .int .i64 p] W (fun e w' => e = .returned (.int .i64 (sumP D ws p)) ∧ ∃ m, w' = W.drewN m) from by
      have := sSumFrom_any A c D B d ws p W k1 k2
      unfold sumV at this
      rw [if_pos ⟨hW, by unfold pointB; rw [hs, Bool.true_and]; exact decide_eq_true (by omega)⟩] at this
      exact this)
    have HB := Lib.hid (fun p (hp : p < D.length) => sumP_bd hW hp)
    rw [hW] at HC
    clear hs hl hwt hW h hw HV
    go_enter Tryz.func59, Tryz.ntmps59
    go_wp2
    go_loopg [5, 6, 7] D.length (fun g s5 s6 s7 wr => ∃ (i : Nat) (b : Int), i + g = D.length ∧ s7 = .int .i64 i ∧ s6 = .int .i64 b ∧ -1 ≤ b ∧ Hid (ColM (sumP D ws) w wr s5 b g i (medG (sumP D ws) D.length 0 (-1) [])))
    case atStart => exact ⟨0, -1, by omega, rfl, rfl, by omega, Lib.hid ⟨[], Acc.empty _ (Ext.refl _), Nat.le_refl _, rfl⟩⟩
    case round =>
      obtain ⟨k, b, hi, rfl, rfl, hb1, HCol⟩ := hrel
      have hx : Ext w wr := HCol.out.elim fun _ q => q.1.x
      by_cases hin : k < D.length
      · obtain ⟨g', rfl⟩ : ∃ g', gk = g' + 1 := ⟨gk - 1, by omega⟩
        have hin' : (k : Int) < (D.length : Nat) := by omega
        have hbd := HB.out k hin
        have e0 : (sumP D ws k == sumP D ws k) = true := beq_self_eq_true _
        by_cases hb0 : b < 0
        · have HN := Lib.hid (show b < 0 ∨ sumP D ws k < b from .inl hb0)
          go_wp2_with fail
          refine (HC.out _ (HM.out.ext hx) (HI.out.ext hx)).mono ?_
          rintro e w1 ⟨rfl, m1, rfl⟩
          go_wp2_with fail
          refine (HS.out k _ hin (HM.out.ext (by repeat (first | exact Ext.refl _ | assumption | apply Ext.drewN' | apply Ext.alloc' | refine Ext.trans ?_ (by assumption)))) (HI.out.ext (by repeat (first | exact Ext.refl _ | assumption | apply Ext.drewN' | apply Ext.alloc' | refine Ext.trans ?_ (by assumption))))).mono ?_
          rintro e w2 ⟨rfl, m2, rfl⟩
          obtain ⟨xs, a1, a2, a3⟩ := HCol.out
          go_wp2_with (at_builtin; refine wp_app Tryz.underlying54 infoI rfl (by decide) rfl (.tmp 37) (.tmp 39) rfl _ _ [] rfl (congrArg (fun n => Value.slice (some ⟨n, 0, none⟩) 1 1) (show wr.heap.size + 1 = _ by simp)) rfl (Acc.empty (w0 := w) _ (by repeat (first | exact Ext.refl _ | assumption | apply Ext.drewN' | apply Ext.alloc' | refine Ext.trans ?_ (by assumption)))) (by simp) ?_; intro v' w' ha _ _; have HA := Lib.hid ha; clear ha)
          go_roundg g'
          case measure => omega
          case rel => exact ⟨k + 1, sumP D ws k, by omega, by go_num, rfl, by omega, Lib.hid ⟨[(k : Int)], HA.out, by simp, by rw [← medG_new HN.out]; exact a3⟩⟩
        by_cases hlt : sumP D ws k < b
        · have HN := Lib.hid (show b < 0 ∨ sumP D ws k < b from .inr hlt)
          go_wp2_with fail
          refine (HC.out _ (HM.out.ext hx) (HI.out.ext hx)).mono ?_
          rintro e w1 ⟨rfl, m1, rfl⟩
          go_wp2_with fail
          refine (HS.out k _ hin (HM.out.ext (by repeat (first | exact Ext.refl _ | assumption | apply Ext.drewN' | apply Ext.alloc' | refine Ext.trans ?_ (by assumption)))) (HI.out.ext (by repeat (first | exact Ext.refl _ | assumption | apply Ext.drewN' | apply Ext.alloc' | refine Ext.trans ?_ (by assumption))))).mono ?_
          rintro e w2 ⟨rfl, m2, rfl⟩
          obtain ⟨xs, a1, a2, a3⟩ := HCol.out
          go_wp2_with (at_builtin; refine wp_app Tryz.underlying54 infoI rfl (by decide) rfl (.tmp 37) (.tmp 39) rfl _ _ [] rfl (congrArg (fun n => Value.slice (some ⟨n, 0, none⟩) 1 1) (show wr.heap.size + 1 = _ by simp)) rfl (Acc.empty (w0 := w) _ (by repeat (first | exact Ext.refl _ | assumption | apply Ext.drewN' | apply Ext.alloc' | refine Ext.trans ?_ (by assumption)))) (by simp) ?_; intro v' w' ha _ _; have HA := Lib.hid ha; clear ha)
          go_roundg g'
          case measure => omega
          case rel => exact ⟨k + 1, sumP D ws k, by omega, by go_num, rfl, by omega, Lib.hid ⟨[(k : Int)], HA.out, by simp, by rw [← medG_new HN.out]; exact a3⟩⟩
        have HN := Lib.hid (show ¬ (b < 0 ∨ sumP D ws k < b) from fun h => by omega)
        clear e0
        by_cases e : sumP D ws k = b
        · have e' : (sumP D ws k == b) = true := by simp [e]
          have HE := Lib.hid e
          clear e
          obtain ⟨xs, a1, a2, a3⟩ := HCol.out
          have HX := Lib.hid (And.intro a1 a3)
          clear a1 a3
          go_wp2_with fail
          refine (HC.out _ (HM.out.ext hx) (HI.out.ext hx)).mono ?_
          rintro e w1 ⟨rfl, m1, rfl⟩
          go_wp2_with fail
          refine (HS.out k _ hin (HM.out.ext (by repeat (first | exact Ext.refl _ | assumption | apply Ext.drewN' | apply Ext.alloc' | refine Ext.trans ?_ (by assumption)))) (HI.out.ext (by repeat (first | exact Ext.refl _ | assumption | apply Ext.drewN' | apply Ext.alloc' | refine Ext.trans ?_ (by assumption))))).mono ?_
          rintro e w2 ⟨rfl, m2, rfl⟩
          go_wp2_with (at_builtin; refine wp_app Tryz.underlying54 infoI rfl (by decide) rfl (.tmp 37) (.tmp 39) rfl _ _ _ rfl rfl rfl (HX.out.1.on (Ext.drewN _ _)) (by simp; omega) ?_; intro v' w' ha _ _; have HA := Lib.hid ha; clear ha)
          go_roundg g'
          case measure => omega
          case rel => exact ⟨k + 1, b, by omega, by go_num, rfl, by omega, Lib.hid ⟨xs ++ [(k : Int)], by simpa using HA.out, by simp; omega, by rw [← medG_more HN.out HE.out]; exact HX.out.2⟩⟩
        · have e' : (sumP D ws k == b) = false := by simp [e]
          have HE := Lib.hid e
          clear e
          obtain ⟨xs, a1, a2, a3⟩ := HCol.out
          have HX := Lib.hid (And.intro a1 a3)
          clear a1 a3
          go_wp2_with fail
          refine (HC.out _ (HM.out.ext hx) (HI.out.ext hx)).mono ?_
          rintro e w1 ⟨rfl, m1, rfl⟩
          go_wp2_with fail
          refine (HS.out k _ hin (HM.out.ext (by repeat (first | exact Ext.refl _ | assumption | apply Ext.drewN' | apply Ext.alloc' | refine Ext.trans ?_ (by assumption)))) (HI.out.ext (by repeat (first | exact Ext.refl _ | assumption | apply Ext.drewN' | apply Ext.alloc' | refine Ext.trans ?_ (by assumption))))).mono ?_
          rintro e w2 ⟨rfl, m2, rfl⟩
          go_wp2
          go_roundg g'
          case measure => omega
          case rel => exact ⟨k + 1, b, by omega, by go_num, rfl, by omega, Lib.hid ⟨xs, HX.out.1.on (Ext.drewN _ _), by omega, by rw [← medG_skip HN.out HE.out]; exact HX.out.2⟩⟩
      · have hin' : ¬ (k : Int) < (D.length : Nat) := by omega
        obtain rfl : gk = 0 := by omega
        go_wp2
        go_ret
        obtain ⟨xs, h1, h2, h3⟩ := HCol.out
        have e : xs = medsV D ws := by rw [HF.out]; exact h3
        subst e
        obtain ⟨hl, hf⟩ := Leaf.of_own (n := ((medsV D ws).map (Value.int .i64)).length) h1.2
        exact ⟨_, rfl, hl, hf, h1.1⟩
theorem medsV_len (D : List (List Int)) (ws : List Int) : (medsV D ws).length ≤ D.length := by
  unfold medsV
  split
  · rw [selN_eq, List.length_map]; have := List.length_filter_le (medP D ws) (List.range D.length); simpa using this
  · simp
end Go.Proofs.YtcejdgnfmcgopaaGreatDoor
