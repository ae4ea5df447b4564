/- What is proved: contracts and plain laws for what the later texts lean on (Qx, Mid, Meds, Iso, IsoS, IsoP, Pts, Splits, Spl2). Conditions: those of each. -/
import Derived.Test.YtnalcgcdohlfiaaGreatDoorPa
import Derived.BigQuiet
import Derived.Laws.BitsAllLaws
import Derived.StillTailTactics
import Derived.WalkLawsBesides
namespace Go.Proofs.YtnalcgcdohlfiaaGreatDoor
open Go.RowKit

/-- a world that holds all that w holds -/
structure EW (w : World) where
  to : World
  ok : Ext w to
instance (w : World) : Inhabited (EW w) := ⟨⟨w, Ext.refl w⟩⟩
theorem wp_region_quiet_ext {P : Program} {id : Nat} {Q : Exit → Act → World → Prop} {a : Act} {w : World} {l : List Oper} (hm : P.follows .mixedOrders = true) (hB : Region.lexB .any l.toArray = true)
    (h : wpQuiet P l.toArray (fun w' => ∃ p : EW w, w' = p.to) (fun a' => ∀ w', (∃ p : EW w, w' = p.to) → Q .normal a' w') l a) : (Code.region id l.toArray true).wp P Q a w :=
  wp_region_quiet (C := fun w' => ∃ p : EW w, w' = p.to) hm hB ⟨⟨w.drewN 1, Ext.drewN' (Ext.refl w) 1⟩, rfl⟩ (by simpa using h)
theorem Calls.ew_of {P : Program} {f : FuncId} {args : Array Value} {w : World} {x : EW w} {v : Value} (h : Calls P f args x.to fun e w' => e = .returned v ∧ Ext x.to w') :
    Calls P f args x.to fun e w'' => e = .returned v ∧ ∃ p : EW w, w'' = p.to :=
  h.mono fun _ w' ⟨he, hx⟩ => ⟨he, ⟨w', x.ok.trans hx⟩, rfl⟩
theorem Calls.ew_dr {P : Program} {f : FuncId} {args : Array Value} {w : World} {x : EW w} {v : Value} (h : Calls P f args x.to fun e w' => e = .returned v ∧ ∃ m, w' = x.to.drewN m) :
    Calls P f args x.to fun e w'' => e = .returned v ∧ ∃ p : EW w, w'' = p.to :=
  h.mono fun _ _ ⟨he, m, hx⟩ => ⟨he, ⟨x.to.drewN m, Ext.drewN' x.ok m⟩, hx⟩

end Go.Proofs.YtnalcgcdohlfiaaGreatDoor
namespace Go.Proofs.YtnalcgcdohlfiaaGreatDoor
open Go.RowKit

/-- the numbers below n of which p holds -/
def selG (p : Nat → Bool) : Nat → Nat → List Int → List Int := itR (fun k xs => if p k = true then xs ++ [(k : Int)] else xs)
def selN (p : Nat → Bool) (n : Nat) : List Int := selG p n 0 []
theorem selG_eq (p : Nat → Bool) : ∀ g k xs, selG p g k xs = xs ++ ((List.range' k g).filter p).map (fun i => ((i : Nat) : Int))
  | 0, k, xs => by simp [selG, itR]
  | g + 1, k, xs => by
    have e : selG p (g + 1) k xs = selG p g (k + 1) (if p k = true then xs ++ [(k : Int)] else xs) := rfl
    rw [e, selG_eq p g (k + 1), List.range'_succ]
    by_cases h : p k = true
    · simp [h]
    · simp [h]
theorem selN_eq (p : Nat → Bool) (n : Nat) : selN p n = ((List.range n).filter p).map (fun i => ((i : Nat) : Int)) := by
  rw [selN, selG_eq, List.range_eq_range']; simp
theorem selN_congr {p q : Nat → Bool} {n : Nat} (h : ∀ i, i < n → p i = q i) : selN p n = selN q n := by
  rw [selN_eq, selN_eq, List.filter_congr (fun x hx => h x (List.mem_range.1 hx))]

/-- collecting numbers: the slot v holds xs so far, the rest of the loop makes T of it -/
def Col (p : Nat → Bool) (w0 W : World) (v : Value) (g k : Nat) (T : List Int) : Prop := ∃ xs : List Int, Acc w0 W 3 v (xs.map (Value.int .i64)) ∧ xs.length ≤ k ∧ selG p g k xs = T
theorem Col.x {p : Nat → Bool} {w0 W : World} {v : Value} {g k : Nat} {T : List Int} (h : Col p w0 W v g k T) : Ext w0 W := h.elim fun _ h => h.1.x
theorem Col.start {p : Nat → Bool} {w0 w : World} {n : Nat} (h : Ext w0 w) : Col p w0 (w.alloc (.cells #[] 3)) (.slice (some ⟨w.heap.size, 0, none⟩) 0 0) n 0 (selN p n) :=
  ⟨[], Acc.empty _ h, Nat.le_refl _, rfl⟩
theorem Col.on {p : Nat → Bool} {w0 W W' : World} {v : Value} {g k : Nat} {T : List Int} (h : Col p w0 W v g k T) (hx : Ext W W') : Col p w0 W' v g k T := by
  obtain ⟨xs, h1, h2, h3⟩ := h
  exact ⟨xs, h1.on hx, h2, h3⟩
theorem Col.skip {p : Nat → Bool} {w0 W W' : World} {v : Value} {g k : Nat} {T : List Int} (h : Col p w0 W v (g + 1) k T) (hp : p k = false) (hx : Ext W W') : Col p w0 W' v g (k + 1) T := by
  obtain ⟨xs, h1, h2, h3⟩ := h
  refine ⟨xs, h1.on hx, by omega, ?_⟩
  rw [← h3]
  show _ = selG p g (k + 1) (if p k = true then xs ++ [(k : Int)] else xs)
  rw [hp]; rfl
theorem Col.done {p : Nat → Bool} {w0 W : World} {v : Value} {k : Nat} {T : List Int} (h : Col p w0 W v 0 k T) : FreshI w0 T (.returned v) W := by
  obtain ⟨xs, h1, h2, h3⟩ := h
  have e : xs = T := h3
  subst e
  obtain ⟨hl, hf⟩ := Leaf.of_own (n := (xs.map (Value.int .i64)).length) h1.2
  exact ⟨v, rfl, hl, hf, h1.1⟩
/-- one number more -/
theorem Col.push {P : Program} {ops : Array Oper} {rest : List Oper} {o : Oper} {a : Act} {Q : Exit → Act → World → Prop} {w0 W : World} {T E : TypeId} {p : Nat → Bool} {g k : Nat} {S : List Int}
    (hE : E = 3) (ht : P.underlying T = some (.slice E)) (hinfo : (P.info? E).map (fun i => (i.zero, i.size, i.bytes)) = some (some (.int .i64 0), 1, 8))
    (hgd : o.guard = none) (s x : Operand) (ho : o.op = .call { callee := .builtin .append, args := #[s, x], argTypes := #[T, T] })
    (v : Value) (hs : a.eval s = v) (hx : a.eval x = .slice (some ⟨W.heap.size, 0, none⟩) 1 1) (h : Col p w0 W v (g + 1) k S) (hp : p k = true) (hk : k ≤ 10000000)
    (hn : ∀ v' w', Col p w0 w' v' g (k + 1) S → wpList P ops Q rest (a.put o.dst v') w') : wpList P ops Q (o :: rest) a (W.alloc (.cells #[.int .i64 k] E)) := by
  subst hE
  obtain ⟨xs, h1, h2, h3⟩ := h
  refine wp_app ht hinfo rfl (by decide) hgd s x ho v _ _ hs hx rfl h1 (by simp; omega) fun v' w' ha _ _ => hn v' w' ⟨xs ++ [(k : Int)], by simpa using ha, by simp; omega, ?_⟩
  rw [← h3]
  show _ = selG p g (k + 1) (if p k = true then xs ++ [(k : Int)] else xs)
  rw [hp]; rfl

/-- .. with what stands beside -/
theorem Col.push2 {P : Program} {ops : Array Oper} {rest : List Oper} {o : Oper} {a : Act} {Q : Exit → Act → World → Prop} {w0 W : World} {T E : TypeId} {p : Nat → Bool} {g k : Nat} {S : List Int}
    (hE : E = 3) (ht : P.underlying T = some (.slice E)) (hinfo : (P.info? E).map (fun i => (i.zero, i.size, i.bytes)) = some (some (.int .i64 0), 1, 8))
    (hgd : o.guard = none) (s x : Operand) (ho : o.op = .call { callee := .builtin .append, args := #[s, x], argTypes := #[T, T] })
    (v : Value) (hs : a.eval s = v) (hx : a.eval x = .slice (some ⟨W.heap.size, 0, none⟩) 1 1) (h : Col p w0 W v (g + 1) k S) (hp : p k = true) (hk : k ≤ 10000000)
    (hn : ∀ v' w', Col p w0 w' v' g (k + 1) S ∧ Beside v W w' ∧ Stays v v' (W.heap.size + 1) → wpList P ops Q rest (a.put o.dst v') w') : wpList P ops Q (o :: rest) a (W.alloc (.cells #[.int .i64 k] E)) := by
  subst hE
  obtain ⟨xs, h1, h2, h3⟩ := h
  refine wp_app ht hinfo rfl (by decide) hgd s x ho v _ _ hs hx rfl h1 (by simp; omega) fun v' w' ha hb hs => hn v' w' ⟨⟨xs ++ [(k : Int)], by simpa using ha, by simp; omega, ?_⟩, hb, hs⟩
  rw [← h3]
  show _ = selG p g (k + 1) (if p k = true then xs ++ [(k : Int)] else xs)
  rw [hp]; rfl

def btwB (D : List (List Int)) (a b x : Nat) : Bool := decide (at2 D a x + at2 D x b = at2 D a b)
def midB (D : List (List Int)) (a b c x : Nat) : Bool := btwB D a b x && (btwB D a c x && btwB D b c x)
def midsL (D : List (List Int)) (a b c : Nat) : List Int := selN (midB D a b c) D.length

end Go.Proofs.YtnalcgcdohlfiaaGreatDoor
namespace Go.Proofs.YtnalcgcdohlfiaaGreatDoor
open Go.RowKit

theorem itR_inv {S : Type} {f : Nat → S → S} (P : Nat → S → Prop) : ∀ (g k : Nat) (s : S), P k s → (∀ j s, k ≤ j → j < k + g → P j s → P (j + 1) (f j s)) → P (k + g) (itR f g k s)
  | 0, _, _, h, _ => h
  | g + 1, k, s, h, hs => by
    have := itR_inv P g (k + 1) (f k s) (hs k s (Nat.le_refl _) (by omega) h) (fun j s h1 h2 h3 => hs j s (by omega) (by omega) h3)
    rw [show k + (g + 1) = k + 1 + g by omega]
    exact this
theorem sumP_bd {D : List (List Int)} {ws : List Int} {p : Nat} (hw : weightsB D ws = true) (hp : p < D.length) : 0 ≤ sumP D ws p ∧ sumP D ws p ≤ 3240 := by
  obtain ⟨hs, hl, hwt⟩ := weightsB_parts hw
  obtain ⟨⟨_, h6⟩, _, hc⟩ := farB_parts (spB_far hs)
  have := itR_inv (f := fun k s => s + ix ws k * at2 D p k) (fun j (s : Int) => 0 ≤ s ∧ s ≤ 540 * j) ws.length 0 0 (by omega) (fun j s _ hj h => by
    obtain ⟨q1, q2, _⟩ := hc p hp j (by omega)
    obtain ⟨q3, q4⟩ := hwt j (by omega)
    have := mul_bd q3 q4 q1 q2
    show 0 ≤ s + ix ws j * at2 D p j ∧ s + ix ws j * at2 D p j ≤ 540 * ((j + 1 : Nat) : Int)
    omega)
  unfold sumP
  omega

def leastS (D : List (List Int)) (ws : List Int) : Int := itR (fun i s => min s (sumP D ws i)) D.length 0 (sumP D ws 0)
def medP (D : List (List Int)) (ws : List Int) (i : Nat) : Bool := decide (sumP D ws i = leastS D ws)
def medsV (D : List (List Int)) (ws : List Int) : List Int := if weightsB D ws = true then selN (medP D ws) D.length else []

set_option maxRecDepth 100000 in
set_option maxHeartbeats 2000000 in
theorem mediansOf_any (A : Option Addr) (c : Nat) (D : List (List Int)) (B : Option Addr) (d : Nat) (ws : List Int) (w : World) (h : Mat w A c D) (hw : Ints w B d ws) (hW : weightsB D ws = true) :
    Calls Tryz.prog 69 #[.slice A D.length c, .slice B ws.length d] w (FreshI w (selN (medP D ws) D.length)) := by
  obtain ⟨hs, hl, hwt⟩ := weightsB_parts hW
  obtain ⟨n1, n6⟩ := spB_len hs
  have HM := Lib.hid h
  have HI := Lib.hid hw
  have HS := Lib.hid (fun p W (hp : p < D.length) (k1 : Mat W A c D) (k2 : Ints W B d ws) => sumFrom_any A c D B d ws p W k1 k2 hs (by omega) hwt hp)
  have HB := Lib.hid (fun p (hp : p < D.length) => sumP_bd hW hp)
  clear hs hl hwt hW h hw
  go_enter Tryz.func69, Tryz.ntmps69
  go_wp2_with fail
  refine (HS.out 0 _ (by omega) (HM.out.ext (by repeat (first | exact Ext.refl _ | assumption | apply Ext.drewN' | apply Ext.alloc' | refine Ext.trans ?_ (by assumption)))) (HI.out.ext (by repeat (first | exact Ext.refl _ | assumption | apply Ext.drewN' | apply Ext.alloc' | refine Ext.trans ?_ (by assumption))))).mono ?_
  rintro e w1 ⟨rfl, m1, rfl⟩
  go_wp2
  go_loopg [14, 5] (D.length) (fun g s14 s5 wr => ∃ (i m : Nat) (s : Int), i + g = D.length ∧ s14 = .int .i64 i ∧ s5 = .int .i64 s ∧ wr = w.drewN m ∧ Hid (itR (fun i s => min s (sumP D ws i)) g i s = leastS D ws))
  case atStart => exact ⟨0, _, _, by omega, rfl, rfl, by first | rfl | exact drewN_0 _ | exact drewN_add _ _ _, Lib.hid (rfl)⟩
  case round =>
    obtain ⟨i, mi, s, hi, rfl, rfl, rfl, Hi⟩ := hrel
    by_cases hini : i < D.length
    · obtain ⟨gi, rfl⟩ : ∃ g', gk = g' + 1 := ⟨gk - 1, by omega⟩
      have hini' : (i : Int) < (D.length : Nat) := by omega
      by_cases hle : s ≤ sumP D ws i
      · have HE := Lib.hid (Int.min_eq_left hle)
        go_wp2_with fail
        refine (HS.out i _ hini (HM.out.ext (by repeat (first | exact Ext.refl _ | assumption | apply Ext.drewN' | apply Ext.alloc' | refine Ext.trans ?_ (by assumption)))) (HI.out.ext (by repeat (first | exact Ext.refl _ | assumption | apply Ext.drewN' | apply Ext.alloc' | refine Ext.trans ?_ (by assumption))))).mono ?_
        rintro e w2 ⟨rfl, m2, rfl⟩
        go_wp2
        go_roundg gi
        case measure => omega
        case rel => exact ⟨i + 1, _, s, by omega, by go_num, by first | rfl | go_num, by first | rfl | exact drewN_0 _ | exact drewN_add _ _ _, Lib.hid (by rw [← Hi.out, itR, HE.out])⟩
      · have HE := Lib.hid (Int.min_eq_right (show sumP D ws i ≤ s by omega))
        go_wp2_with fail
        refine (HS.out i _ hini (HM.out.ext (by repeat (first | exact Ext.refl _ | assumption | apply Ext.drewN' | apply Ext.alloc' | refine Ext.trans ?_ (by assumption)))) (HI.out.ext (by repeat (first | exact Ext.refl _ | assumption | apply Ext.drewN' | apply Ext.alloc' | refine Ext.trans ?_ (by assumption))))).mono ?_
        rintro e w2 ⟨rfl, m2, rfl⟩
        go_wp2
        go_roundg gi
        case measure => omega
        case rel => exact ⟨i + 1, _, sumP D ws i, by omega, by go_num, by first | rfl | go_num, by first | rfl | exact drewN_0 _ | exact drewN_add _ _ _, Lib.hid (by rw [← Hi.out, itR, HE.out])⟩
    · have hini' : ¬ (i : Int) < (D.length : Nat) := by omega
      obtain rfl : gk = 0 := by omega
      have HL := Lib.hid (show s = leastS D ws from Hi.out)
      clear Hi
      go_wp2
      go_loopg [7, 27] D.length (fun g s7 s27 wr => ∃ (i : Nat), i + g = D.length ∧ s27 = .int .i64 i ∧ Col (medP D ws) w wr s7 g i (selN (medP D ws) D.length))
      case atStart => exact ⟨0, by omega, rfl, Col.start (by repeat (first | exact Ext.refl _ | assumption | apply Ext.drewN' | apply Ext.alloc' | refine Ext.trans ?_ (by assumption)))⟩
      case round =>
        obtain ⟨x, hi, rfl, hcol⟩ := hrel
        by_cases hin : x < D.length
        · obtain ⟨g', rfl⟩ : ∃ g', gk = g' + 1 := ⟨gk - 1, by omega⟩
          have hin' : (x : Int) < (D.length : Nat) := by omega
          have hx := hcol.x
          by_cases e : sumP D ws x = s
          · have e' : (sumP D ws x == s) = true := by simp [e]
            have HE := Lib.hid (show medP D ws x = true by unfold medP; rw [← HL.out]; exact decide_eq_true e)
            clear e
            go_wp2_with fail
            refine (HS.out x _ hin (HM.out.ext hx) (HI.out.ext hx)).mono ?_
            rintro e w2 ⟨rfl, m2, rfl⟩
            have hcol2 := hcol.on (Ext.drewN _ m2)
            go_wp2_with (at_builtin; refine Col.push rfl Tryz.underlying47 infoI rfl (.tmp 36) (.tmp 38) rfl _ rfl rfl hcol2 HE.out (by omega) ?_; intro v' w' hcol')
            go_roundg g'
            case measure => omega
            case rel => exact ⟨x + 1, by omega, by go_num, hcol'⟩
          · have e' : (sumP D ws x == s) = false := by simp [e]
            have HE := Lib.hid (show medP D ws x = false by unfold medP; rw [← HL.out]; exact decide_eq_false e)
            clear e
            go_wp2_with fail
            refine (HS.out x _ hin (HM.out.ext hx) (HI.out.ext hx)).mono ?_
            rintro e w2 ⟨rfl, m2, rfl⟩
            go_wp2
            go_roundg g'
            case measure => omega
            case rel => exact ⟨x + 1, by omega, by go_num, hcol.skip HE.out (Ext.drewN _ _)⟩
        · have hin' : ¬ (x : Int) < (D.length : Nat) := by omega
          obtain rfl : gk = 0 := by omega
          go_wp2
          go_ret
          exact hcol.done

/-- spec.MediansOf round by round: the best sum so far, and where it is met -/
def medStep (f : Nat → Int) (k : Nat) (s : Int × List Int) : Int × List Int :=
  if s.1 < 0 ∨ f k < s.1 then (f k, [(k : Int)]) else if f k = s.1 then (s.1, s.2 ++ [(k : Int)]) else s
def medG (f : Nat → Int) (g k : Nat) (b : Int) (xs : List Int) : List Int := (itR (medStep f) g k (b, xs)).2
theorem medG_new {f : Nat → Int} {g k : Nat} {b : Int} {xs : List Int} (h : b < 0 ∨ f k < b) : medG f (g + 1) k b xs = medG f g (k + 1) (f k) [(k : Int)] := by
  unfold medG; rw [itR]; simp only [medStep, if_pos h]
theorem medG_more {f : Nat → Int} {g k : Nat} {b : Int} {xs : List Int} (h : ¬ (b < 0 ∨ f k < b)) (e : f k = b) : medG f (g + 1) k b xs = medG f g (k + 1) b (xs ++ [(k : Int)]) := by
  unfold medG; rw [itR]; simp only [medStep, if_neg h, if_pos e]
theorem medG_skip {f : Nat → Int} {g k : Nat} {b : Int} {xs : List Int} (h : ¬ (b < 0 ∨ f k < b)) (e : ¬ f k = b) : medG f (g + 1) k b xs = medG f g (k + 1) b xs := by
  unfold medG; rw [itR]; simp only [medStep, if_neg h, if_neg e]
theorem selN_succ (p : Nat → Bool) (n : Nat) : selN p (n + 1) = selN p n ++ if p n = true then [(n : Int)] else [] := by
  rw [selN_eq, selN_eq, List.range_succ, List.filter_append, List.map_append]
  congr 1
  by_cases h : p n = true
  · simp [h]
  · simp [h]
theorem least_spec (f : Nat → Int) (n : Nat) (hn : 0 < n) : (∀ j, j < n → itR (fun i s => min s (f i)) n 0 (f 0) ≤ f j) ∧ ∃ j, j < n ∧ itR (fun i s => min s (f i)) n 0 (f 0) = f j := by
  have := itR_inv (f := fun i s => min s (f i)) (fun k (s : Int) => (∀ j, j < k → s ≤ f j) ∧ ∃ j, j < n ∧ s = f j) n 0 (f 0) ⟨fun j hj => absurd hj (by omega), 0, hn, rfl⟩ (fun k s _ hk h => by
    obtain ⟨h1, j, hj, h2⟩ := h
    refine ⟨fun i hi => ?_, ?_⟩
    · by_cases e : i = k
      · subst e; exact Int.min_le_right _ _
      · exact Int.le_trans (Int.min_le_left _ _) (h1 i (by omega))
    · rcases Int.le_total s (f k) with h | h
      · exact ⟨j, hj, by show min s (f k) = f j; rw [Int.min_eq_left h]; exact h2⟩
      · exact ⟨k, by omega, by show min s (f k) = f k; exact Int.min_eq_right h⟩)
  simpa using this
theorem med_same (f : Nat → Int) (n : Nat) (hn : 0 < n) (hf : ∀ j, j < n → 0 ≤ f j) : medG f n 0 (-1) [] = selN (fun i => decide (f i = itR (fun i s => min s (f i)) n 0 (f 0))) n := by
  obtain ⟨h1, j0, hj0, h2⟩ := least_spec f n hn
  have key := itR_inv (f := medStep f) (fun k (s : Int × List Int) => (k = 0 → s = (-1, [])) ∧ (0 < k → 0 ≤ s.1 ∧ (∀ j, j < k → s.1 ≤ f j) ∧ (∃ j, j < k ∧ s.1 = f j) ∧ s.2 = selN (fun j => decide (f j = s.1)) k)) n 0 (-1, [])
    ⟨fun _ => rfl, fun h => absurd h (by omega)⟩ (fun k s _ hk h => by
      refine ⟨fun h => absurd h (by omega), fun _ => ?_⟩
      have hfk := hf k (by omega)
      have hcase : s.1 < 0 ∨ 0 < k := by
        rcases Nat.eq_zero_or_pos k with e | e
        · left; rw [h.1 e]; decide
        · exact .inr e
      by_cases hb : s.1 < 0 ∨ f k < s.1
      · simp only [medStep, if_pos hb]
        have hk1 : ∀ j, j < k → f k < f j ∨ (k = 0) := fun j hj => by
          obtain ⟨_, q, _, _⟩ := h.2 (by omega)
          have := q j hj
          rcases hb with hb | hb
          · have := (h.2 (by omega)).1; omega
          · left; omega
        refine ⟨hfk, fun j hj => ?_, ⟨k, by omega, rfl⟩, ?_⟩
        · by_cases e : j = k
          · subst e; exact Int.le_refl _
          · rcases hk1 j (by omega) with h | h <;> omega
        · rw [selN_succ, selN_false' (fun j hj => by
            rcases hk1 j hj with h | h
            · exact decide_eq_false (by omega)
            · omega)]
          simp
      · have hk0 : 0 < k := by rcases hcase with h' | h'
                               · exact absurd (.inl h') hb
                               · exact h'
        obtain ⟨q1, q2, ⟨j, hj, q3⟩, q4⟩ := h.2 hk0
        by_cases e : f k = s.1
        · simp only [medStep, if_neg hb, if_pos e]
          refine ⟨q1, fun i hi => ?_, ⟨j, by omega, q3⟩, ?_⟩
          · by_cases e' : i = k
            · subst e'; omega
            · exact q2 i (by omega)
          · rw [selN_succ, if_pos (decide_eq_true e), ← q4]
        · simp only [medStep, if_neg hb, if_neg e]
          refine ⟨q1, fun i hi => ?_, ⟨j, by omega, q3⟩, ?_⟩
          · by_cases e' : i = k
            · subst e'; omega
            · exact q2 i (by omega)
          · rw [selN_succ, if_neg (by simpa using e), ← q4, List.append_nil])
  simp only [Nat.zero_add] at key
  obtain ⟨q1, q2, ⟨j, hj, q3⟩, q4⟩ := key.2 hn
  have e : (itR (medStep f) n 0 (-1, [])).1 = itR (fun i s => min s (f i)) n 0 (f 0) := by
    have a := q2 j0 hj0
    have b := h1 j hj
    omega
  unfold medG
  rw [q4, e]
where
  selN_false' {p : Nat → Bool} {n : Nat} (h : ∀ i, i < n → p i = false) : selN p n = [] := by
    rw [selN_eq, List.filter_eq_nil_iff.2 (fun x hx => by rw [h x (List.mem_range.1 hx)]; simp)]; rfl

def ColM (f : Nat → Int) (w0 W : World) (v : Value) (b : Int) (g k : Nat) (T : List Int) : Prop := ∃ xs : List Int, Acc w0 W 3 v (xs.map (Value.int .i64)) ∧ xs.length ≤ k ∧ medG f g k b xs = T

set_option maxRecDepth 100000 in
set_option maxHeartbeats 4000000 in
theorem sMediansOf_any (A : Option Addr) (c : Nat) (D : List (List Int)) (B : Option Addr) (d : Nat) (ws : List Int) (w : World) (h : Mat w A c D) (hw : Ints w B d ws) :
    Calls Tryz.prog 44 #[.slice A D.length c, .slice B ws.length d] w (FreshI w (medsV D ws)) := by
  have hcm := h.2.1
  have hlc := h.1
  unfold maxLen at hcm
  have HM := Lib.hid h
  have HI := Lib.hid hw
  have HV := Lib.hid (show medsV D ws = if weightsB D ws = true then selN (medP D ws) D.length else [] from rfl)
  have HC := Lib.hid (fun W (k1 : Mat W A c D) (k2 : Ints W B d ws) => sWeightsOk_any A c D B d ws W k1 k2)
  cases hW : weightsB D ws with
  | false =>
    rw [hW] at HC HV
    clear hW h hw
    by_cases h0 : 0 < D.length
    · have h0' : (0 : Int) < (D.length : Nat) := by omega
      go_enter Tryz.func44, Tryz.ntmps44
      go_wp2
      refine wp_loop_once ?_
      go_wp2_with fail
      refine (HC.out _ (HM.out.ext (by repeat (first | exact Ext.refl _ | assumption | apply Ext.drewN' | apply Ext.alloc' | refine Ext.trans ?_ (by assumption)))) (HI.out.ext (by repeat (first | exact Ext.refl _ | assumption | apply Ext.drewN' | apply Ext.alloc' | refine Ext.trans ?_ (by assumption))))).mono ?_
      rintro e w1 ⟨rfl, m1, rfl⟩
      go_wp2
      go_ret
      rw [HV.out]
      exact ⟨_, rfl, Leaf.nil _ _ _ (Nat.zero_le _), fun g hg => by simp [lb] at hg, (by repeat (first | exact Ext.refl _ | assumption | apply Ext.drewN' | apply Ext.alloc' | refine Ext.trans ?_ (by assumption)))⟩
    · have h0' : ¬ (0 : Int) < (D.length : Nat) := by omega
      go_enter Tryz.func44, Tryz.ntmps44
      go_wp2
      refine wp_loop_once ?_
      go_wp2
      go_ret
      rw [HV.out]
      exact ⟨_, rfl, Leaf.nil _ _ _ (Nat.zero_le _), fun g hg => by simp [lb] at hg, (by repeat (first | exact Ext.refl _ | assumption | apply Ext.drewN' | apply Ext.alloc' | refine Ext.trans ?_ (by assumption)))⟩
  | true =>
    obtain ⟨hs, hl, hwt⟩ := weightsB_parts hW
    obtain ⟨n1, n6⟩ := spB_len hs
    have HF := Lib.hid (show medsV D ws = medG (sumP D ws) D.length 0 (-1) [] by
      rw [HV.out, if_pos hW, med_same (sumP D ws) D.length (by omega) (fun j hj => (sumP_bd hW hj).1)]; rfl)
    have HS := Lib.hid (fun (p : Nat) W (hp : p < D.length) (k1 : Mat W A c D) (k2 : Ints W B d ws) => show Calls Tryz.prog 79 #[.slice A D.length c, .slice B ws.length d, .int .i64 p] W (fun e w' => e = .returned (.int .i64 (sumP D ws p)) ∧ ∃ m, w' = W.drewN m) from by
      have := sSumFrom_any A c D B d ws p W k1 k2
      unfold sumV at this
      rw [if_pos ⟨hW, by unfold pointB; rw [hs, Bool.true_and]; exact decide_eq_true (by omega)⟩] at this
      exact this)
    have HB := Lib.hid (fun p (hp : p < D.length) => sumP_bd hW hp)
    rw [hW] at HC
    clear hs hl hwt hW h hw HV
    go_enter Tryz.func44, Tryz.ntmps44
    go_wp2
    go_loopg [5, 6, 7] D.length (fun g s5 s6 s7 wr => ∃ (i : Nat) (b : Int), i + g = D.length ∧ s7 = .int .i64 i ∧ s6 = .int .i64 b ∧ -1 ≤ b ∧ Hid (ColM (sumP D ws) w wr s5 b g i (medG (sumP D ws) D.length 0 (-1) [])))
    case atStart => exact ⟨0, -1, by omega, rfl, rfl, by omega, Lib.hid ⟨[], Acc.empty _ (Ext.refl _), Nat.le_refl _, rfl⟩⟩
    case round =>
      obtain ⟨k, b, hi, rfl, rfl, hb1, HCol⟩ := hrel
      have hx : Ext w wr := HCol.out.elim fun _ q => q.1.x
      by_cases hin : k < D.length
      · obtain ⟨g', rfl⟩ : ∃ g', gk = g' + 1 := ⟨gk - 1, by omega⟩
        have hin' : (k : Int) < (D.length : Nat) := by omega
        have hbd := HB.out k hin
        have e0 : (sumP D ws k == sumP D ws k) = true := beq_self_eq_true _
        by_cases hb0 : b < 0
        · have HN := Lib.hid (show b < 0 ∨ sumP D ws k < b from .inl hb0)
          go_wp2_with fail
          refine (HC.out _ (HM.out.ext hx) (HI.out.ext hx)).mono ?_
          rintro e w1 ⟨rfl, m1, rfl⟩
          go_wp2_with fail
          refine (HS.out k _ hin (HM.out.ext (by repeat (first | exact Ext.refl _ | assumption | apply Ext.drewN' | apply Ext.alloc' | refine Ext.trans ?_ (by assumption)))) (HI.out.ext (by repeat (first | exact Ext.refl _ | assumption | apply Ext.drewN' | apply Ext.alloc' | refine Ext.trans ?_ (by assumption))))).mono ?_
          rintro e w2 ⟨rfl, m2, rfl⟩
          obtain ⟨xs, a1, a2, a3⟩ := HCol.out
          go_wp2_with (at_builtin; refine wp_app Tryz.underlying47 infoI rfl (by decide) rfl (.tmp 37) (.tmp 39) rfl _ _ [] rfl (congrArg (fun n => Value.slice (some ⟨n, 0, none⟩) 1 1) (show wr.heap.size + 1 = _ by simp)) rfl (Acc.empty (w0 := w) _ (by repeat (first | exact Ext.refl _ | assumption | apply Ext.drewN' | apply Ext.alloc' | refine Ext.trans ?_ (by assumption)))) (by simp) ?_; intro v' w' ha _ _; have HA := Lib.hid ha; clear ha)
          go_roundg g'
          case measure => omega
          case rel => exact ⟨k + 1, sumP D ws k, by omega, by go_num, rfl, by omega, Lib.hid ⟨[(k : Int)], HA.out, by simp, by rw [← medG_new HN.out]; exact a3⟩⟩
        by_cases hlt : sumP D ws k < b
        · have HN := Lib.hid (show b < 0 ∨ sumP D ws k < b from .inr hlt)
          go_wp2_with fail
          refine (HC.out _ (HM.out.ext hx) (HI.out.ext hx)).mono ?_
          rintro e w1 ⟨rfl, m1, rfl⟩
          go_wp2_with fail
          refine (HS.out k _ hin (HM.out.ext (by repeat (first | exact Ext.refl _ | assumption | apply Ext.drewN' | apply Ext.alloc' | refine Ext.trans ?_ (by assumption)))) (HI.out.ext (by repeat (first | exact Ext.refl _ | assumption | apply Ext.drewN' | apply Ext.alloc' | refine Ext.trans ?_ (by assumption))))).mono ?_
          rintro e w2 ⟨rfl, m2, rfl⟩
          obtain ⟨xs, a1, a2, a3⟩ := HCol.out
          go_wp2_with (at_builtin; refine wp_app Tryz.underlying47 infoI rfl (by decide) rfl (.tmp 37) (.tmp 39) rfl _ _ [] rfl (congrArg (fun n => Value.slice (some ⟨n, 0, none⟩) 1 1) (show wr.heap.size + 1 = _ by simp)) rfl (Acc.empty (w0 := w) _ (by repeat (first | exact Ext.refl _ | assumption | apply Ext.drewN' | apply Ext.alloc' | refine Ext.trans ?_ (by assumption)))) (by simp) ?_; intro v' w' ha _ _; have HA := Lib.hid ha; clear ha)
          go_roundg g'
          case measure => omega
          case rel => exact ⟨k + 1, sumP D ws k, by omega, by go_num, rfl, by omega, Lib.hid ⟨[(k : Int)], HA.out, by simp, by rw [← medG_new HN.out]; exact a3⟩⟩
        have HN := Lib.hid (show ¬ (b < 0 ∨ sumP D ws k < b) from fun h => by omega)
        clear e0
        by_cases e : sumP D ws k = b
        · have e' : (sumP D ws k == b) = true := by simp [e]
          have HE := Lib.hid e
          clear e
          obtain ⟨xs, a1, a2, a3⟩ := HCol.out
          have HX := Lib.hid (And.intro a1 a3)
          clear a1 a3
          go_wp2_with fail
          refine (HC.out _ (HM.out.ext hx) (HI.out.ext hx)).mono ?_
          rintro e w1 ⟨rfl, m1, rfl⟩
          go_wp2_with fail
          refine (HS.out k _ hin (HM.out.ext (by repeat (first | exact Ext.refl _ | assumption | apply Ext.drewN' | apply Ext.alloc' | refine Ext.trans ?_ (by assumption)))) (HI.out.ext (by repeat (first | exact Ext.refl _ | assumption | apply Ext.drewN' | apply Ext.alloc' | refine Ext.trans ?_ (by assumption))))).mono ?_
          rintro e w2 ⟨rfl, m2, rfl⟩
          go_wp2_with (at_builtin; refine wp_app Tryz.underlying47 infoI rfl (by decide) rfl (.tmp 37) (.tmp 39) rfl _ _ _ rfl rfl rfl (HX.out.1.on (Ext.drewN _ _)) (by simp; omega) ?_; intro v' w' ha _ _; have HA := Lib.hid ha; clear ha)
          go_roundg g'
          case measure => omega
          case rel => exact ⟨k + 1, b, by omega, by go_num, rfl, by omega, Lib.hid ⟨xs ++ [(k : Int)], by simpa using HA.out, by simp; omega, by rw [← medG_more HN.out HE.out]; exact HX.out.2⟩⟩
        · have e' : (sumP D ws k == b) = false := by simp [e]
          have HE := Lib.hid e
          clear e
          obtain ⟨xs, a1, a2, a3⟩ := HCol.out
          have HX := Lib.hid (And.intro a1 a3)
          clear a1 a3
          go_wp2_with fail
          refine (HC.out _ (HM.out.ext hx) (HI.out.ext hx)).mono ?_
          rintro e w1 ⟨rfl, m1, rfl⟩
          go_wp2_with fail
          refine (HS.out k _ hin (HM.out.ext (by repeat (first | exact Ext.refl _ | assumption | apply Ext.drewN' | apply Ext.alloc' | refine Ext.trans ?_ (by assumption)))) (HI.out.ext (by repeat (first | exact Ext.refl _ | assumption | apply Ext.drewN' | apply Ext.alloc' | refine Ext.trans ?_ (by assumption))))).mono ?_
          rintro e w2 ⟨rfl, m2, rfl⟩
          go_wp2
          go_roundg g'
          case measure => omega
          case rel => exact ⟨k + 1, b, by omega, by go_num, rfl, by omega, Lib.hid ⟨xs, HX.out.1.on (Ext.drewN _ _), by omega, by rw [← medG_skip HN.out HE.out]; exact HX.out.2⟩⟩
      · have hin' : ¬ (k : Int) < (D.length : Nat) := by omega
        obtain rfl : gk = 0 := by omega
        go_wp2
        go_ret
        obtain ⟨xs, h1, h2, h3⟩ := HCol.out
        have e : xs = medsV D ws := by rw [HF.out]; exact h3
        subst e
        obtain ⟨hl, hf⟩ := Leaf.of_own (n := ((medsV D ws).map (Value.int .i64)).length) h1.2
        exact ⟨_, rfl, hl, hf, h1.1⟩
theorem medsV_len (D : List (List Int)) (ws : List Int) : (medsV D ws).length ≤ D.length := by
  unfold medsV
  split
  · rw [selN_eq, List.length_map]; have := List.length_filter_le (medP D ws) (List.range D.length); simpa using this
  · simp
end Go.Proofs.YtnalcgcdohlfiaaGreatDoor
namespace Go.Proofs.YtnalcgcdohlfiaaGreatDoor
open Go.RowKit

theorem Leaf.lit {w0 W : World} {cs : Array Value} {xs : List Int} {n : Nat} (hx : Ext w0 W) (hg : n = W.heap.size) (hc : ∀ j, j < xs.length → cs[j]? = some (.int .i64 (ix xs j))) (hn : xs.length ≤ 1000) : FreshI w0 xs (.returned (.slice (some ⟨n, 0, none⟩) xs.length xs.length)) (W.alloc (.cells cs 3)) := by
  subst hg
  refine ⟨_, rfl, ⟨_, _, rfl, Nat.le_refl _, by unfold maxLen; omega, fun _ => ⟨W.heap.size, cs, rfl, heap_alloc_new W _, hc⟩⟩, fun g hg => ?_, hx.alloc' _⟩
  cases e : xs.length with
  | zero => rw [e] at hg; simp [lb] at hg
  | succ m => rw [e] at hg; simp [lb] at hg; have := hx.size; omega

def psL (D : List (List Int)) (a b c e : Nat) : List Int := [at2 D a b + at2 D c e, at2 D a c + at2 D b e, at2 D a e + at2 D b c]

set_option maxRecDepth 100000 in
set_option maxHeartbeats 4000000 in
theorem pairSums_any (A : Option Addr) (cp : Nat) (D : List (List Int)) (a b c e : Nat) (w : World) (h : Mat w A cp D) (hf : farB D = true) (ha : a < D.length) (hb : b < D.length) (hc : c < D.length) (he : e < D.length) :
    Calls Tryz.prog 126 #[.slice A D.length cp, .int .i64 a, .int .i64 b, .int .i64 c, .int .i64 e] w (FreshI w (psL D a b c e)) := by
  obtain ⟨⟨hn1, hn6⟩, hsq, hcells⟩ := farB_parts hf
  clear hf
  obtain ⟨bk, o, rc, rb, ro, hA, hrow, -, hcell, -⟩ := h.square hsq
  obtain rfl := hA (by omega)
  have ha' : (a : Int) < (D.length : Nat) := by omega
  have hb' : (b : Int) < (D.length : Nat) := by omega
  have hc' : (c : Int) < (D.length : Nat) := by omega
  have he' : (e : Int) < (D.length : Nat) := by omega
  have r1 := hrow a ha
  have r2 := hrow b hb
  have r3 := hrow c hc
  have c1 := hcell a ha b hb
  have c2 := hcell c hc e he
  have c3 := hcell a ha c hc
  have c4 := hcell b hb e he
  have c5 := hcell a ha e he
  have c6 := hcell b hb c hc
  obtain ⟨p1, q1, -, -⟩ := hcells a ha b hb
  obtain ⟨p2, q2, -, -⟩ := hcells c hc e he
  obtain ⟨p3, q3, -, -⟩ := hcells a ha c hc
  obtain ⟨p4, q4, -, -⟩ := hcells b hb e he
  obtain ⟨p5, q5, -, -⟩ := hcells a ha e he
  obtain ⟨p6, q6, -, -⟩ := hcells b hb c hc
  clear hrow hcell hcells hA
  go_enter Tryz.func126, Tryz.ntmps126
  go_wp2
  go_still_tail 45, (by kernel_rfl)
  go_wp2
  go_ret
  refine Leaf.lit (xs := psL D a b c e) (Ext.drewN w 1) rfl (fun j hj => ?_) (by show 3 ≤ 1000; decide)
  match j, hj with
  | 0, _ => rfl
  | 1, _ => rfl
  | 2, _ => rfl

/-- is a point in a lot? 1 or 0 -/
def bitI (l : Int) (k : Nat) : Int := l / 2 ^ k % 2
theorem bitI_01 (l : Int) (k : Nat) : bitI l k = 0 ∨ bitI l k = 1 := by unfold bitI; omega
theorem bitI_and (l : Int) (k : Nat) (h0 : 0 ≤ l) (h1 : l ≤ 1000000) : bits .and .i64 (l / 2 ^ k) 1 = bitI l k := by
  have hp : (0 : Int) < 2 ^ k := Int.pow_pos (by decide)
  have hq : 0 ≤ l / 2 ^ k := Int.ediv_nonneg h0 (by omega)
  have hq2 : l / 2 ^ k ≤ l := Int.ediv_le_self _ h0
  obtain ⟨q, hq3⟩ : ∃ q : Nat, l / 2 ^ k = q := ⟨(l / 2 ^ k).toNat, by omega⟩
  unfold bitI
  rw [hq3]
  have hb : (BitVec.ofInt 64 ((q : Nat) : Int)).toNat = q := by
    rw [BitVec.ofInt_natCast, BitVec.toNat_ofNat]; exact Nat.mod_eq_of_lt (by omega)
  have h1' : (BitVec.ofInt 64 (1 : Int)).toNat = 1 := by decide
  show IntKind.i64.wrap ((BitVec.ofInt 64 ((q : Nat) : Int) &&& BitVec.ofInt 64 (1 : Int)).toNat : Int) = _
  rw [BitVec.toNat_and, hb, h1', Nat.and_one_is_mod, IntKind.wrap_i64]
  omega

/-- by how much the greatest of three sums is greater than the first one -/
def gap4 (D : List (List Int)) (a b c e : Nat) : Int := maxI (psL D a b c e) - ix (psL D a b c e) 0
def quadB (l : Int) (a b c e : Nat) : Bool := decide (bitI l a = 1 ∧ bitI l b = 1 ∧ bitI l c = 0 ∧ bitI l e = 0)
def isoStep (D : List (List Int)) (l : Int) (a b c e : Nat) (s : Int) : Int := if quadB l a b c e = true then min s (gap4 D a b c e) else s
def iso1 (D : List (List Int)) (l : Int) (a b c : Nat) : Nat → Nat → Int → Int := itR (fun e s => isoStep D l a b c e s)
def iso2 (D : List (List Int)) (l : Int) (a b : Nat) : Nat → Nat → Int → Int := itR (fun c s => iso1 D l a b c D.length 0 s)
def iso3 (D : List (List Int)) (l : Int) (a : Nat) : Nat → Nat → Int → Int := itR (fun b s => iso2 D l a b D.length 0 s)
def isoI (D : List (List Int)) (l : Int) : Int := itR (fun a s => iso3 D l a D.length 0 s) D.length 0 240
theorem isoStep_no {D : List (List Int)} {l : Int} {a b c e : Nat} {s : Int} (h : ¬ (bitI l a = 1 ∧ bitI l b = 1 ∧ bitI l c = 0 ∧ bitI l e = 0)) : isoStep D l a b c e s = s := by
  unfold isoStep quadB; rw [if_neg (by simpa using h)]
theorem isoStep_yes {D : List (List Int)} {l : Int} {a b c e : Nat} {s : Int} (h : bitI l a = 1 ∧ bitI l b = 1 ∧ bitI l c = 0 ∧ bitI l e = 0) : isoStep D l a b c e s = min s (gap4 D a b c e) := by
  unfold isoStep quadB; rw [if_pos (by simpa using h)]
theorem maxI3 (x y z : Int) : maxI [x, y, z] = max (max x y) z := rfl

set_option maxRecDepth 100000 in
set_option maxHeartbeats 8000000 in
theorem isolatedBy_any (A : Option Addr) (cp : Nat) (D : List (List Int)) (l : Int) (w : World) (h : Mat w A cp D) (hf : farB D = true) (hl0 : 0 ≤ l) (hl1 : l ≤ 1000000) :
    Calls Tryz.prog 102 #[.slice A D.length cp, .int .i64 l] w fun e w' => e = .returned (.int .i64 (isoI D l)) ∧ Ext w w' := by
  have HM := Lib.hid h
  obtain ⟨⟨hn1, hn6⟩, hsq, hcells⟩ := farB_parts hf
  have HC := Lib.hid (fun (a b c e : Nat) (ha : a < D.length) (hb : b < D.length) (hc : c < D.length) (he : e < D.length) W (k : Mat W A cp D) => pairSums_any A cp D a b c e W k hf ha hb hc he)
  have HB := Lib.hid (fun k => bitI_and l k hl0 hl1)
  have HCE := Lib.hid hcells
  clear hf hsq hcells h
  go_enter Tryz.func102, Tryz.ntmps102
  go_wp2
  go_loopg [13, 5] (D.length) (fun g s13 s5 wr => ∃ (a : Nat) (s1 : Int), a + g = D.length ∧ s13 = .int .i64 a ∧ s5 = .int .i64 s1 ∧ Ext w wr ∧ 0 ≤ s1 ∧ s1 ≤ 240 ∧ Hid (itR (fun a s => iso3 D l a D.length 0 s) g a s1 = isoI D l))
  case atStart => exact ⟨0, _, by omega, rfl, rfl, by repeat (first | exact Ext.refl _ | assumption | apply Ext.drewN' | apply Ext.alloc' | refine Ext.trans ?_ (by assumption)), by omega, by omega, Lib.hid (rfl)⟩
  case round =>
    obtain ⟨a, s1, ha, rfl, rfl, hxa, hs1, hs1', Ha⟩ := hrel
    by_cases hina : a < D.length
    · obtain ⟨ga, rfl⟩ : ∃ g', gk = g' + 1 := ⟨gk - 1, by omega⟩
      have hina' : (a : Int) < (D.length : Nat) := by omega
      go_wp2
      go_loopg [18, 5] (D.length) (fun g s18 s5 wr => ∃ (b : Nat) (s2 : Int), b + g = D.length ∧ s18 = .int .i64 b ∧ s5 = .int .i64 s2 ∧ Ext w wr ∧ 0 ≤ s2 ∧ s2 ≤ 240 ∧ Hid (iso3 D l a g b s2 = iso3 D l a D.length 0 s1))
      case atStart => exact ⟨0, _, by omega, rfl, rfl, by repeat (first | exact Ext.refl _ | assumption | apply Ext.drewN' | apply Ext.alloc' | refine Ext.trans ?_ (by assumption)), by omega, by omega, Lib.hid (rfl)⟩
      case round =>
        obtain ⟨b, s2, hb, rfl, rfl, hxb, hs2, hs2', Hb⟩ := hrel
        by_cases hinb : b < D.length
        · obtain ⟨gb, rfl⟩ : ∃ g', gk = g' + 1 := ⟨gk - 1, by omega⟩
          have hinb' : (b : Int) < (D.length : Nat) := by omega
          go_wp2
          go_loopg [23, 5] (D.length) (fun g s23 s5 wr => ∃ (c : Nat) (s3 : Int), c + g = D.length ∧ s23 = .int .i64 c ∧ s5 = .int .i64 s3 ∧ Ext w wr ∧ 0 ≤ s3 ∧ s3 ≤ 240 ∧ Hid (iso2 D l a b g c s3 = iso2 D l a b D.length 0 s2))
          case atStart => exact ⟨0, _, by omega, rfl, rfl, by repeat (first | exact Ext.refl _ | assumption | apply Ext.drewN' | apply Ext.alloc' | refine Ext.trans ?_ (by assumption)), by omega, by omega, Lib.hid (rfl)⟩
          case round =>
            obtain ⟨c, s3, hc, rfl, rfl, hxc, hs3, hs3', Hc⟩ := hrel
            by_cases hinc : c < D.length
            · obtain ⟨gc, rfl⟩ : ∃ g', gk = g' + 1 := ⟨gk - 1, by omega⟩
              have hinc' : (c : Int) < (D.length : Nat) := by omega
              go_wp2
              go_loopg [28, 5] (D.length) (fun g s28 s5 wr => ∃ (e : Nat) (s4 : Int), e + g = D.length ∧ s28 = .int .i64 e ∧ s5 = .int .i64 s4 ∧ Ext w wr ∧ 0 ≤ s4 ∧ s4 ≤ 240 ∧ Hid (iso1 D l a b c g e s4 = iso1 D l a b c D.length 0 s3))
              case atStart => exact ⟨0, _, by omega, rfl, rfl, by repeat (first | exact Ext.refl _ | assumption | apply Ext.drewN' | apply Ext.alloc' | refine Ext.trans ?_ (by assumption)), by omega, by omega, Lib.hid (rfl)⟩
              case round =>
                obtain ⟨e, s4, he, rfl, rfl, hxe, hs4, hs4', He⟩ := hrel
                by_cases hine : e < D.length
                · obtain ⟨ge, rfl⟩ : ∃ g', gk = g' + 1 := ⟨gk - 1, by omega⟩
                  have hine' : (e : Int) < (D.length : Nat) := by omega
                  have Hst := Lib.hid (show iso1 D l a b c (ge + 1) e s4 = iso1 D l a b c ge (e + 1) (isoStep D l a b c e s4) from rfl)
                  have B1 := HB.out a
                  have B2 := HB.out b
                  have B3 := HB.out c
                  have B4 := HB.out e
                  rcases bitI_01 l a with q1 | q1
                  · have HN := Lib.hid (isoStep_no (D := D) (a := a) (b := b) (c := c) (e := e) (s := s4) (fun k => absurd (q1.symm.trans k.1) (by decide)))
                    rw [q1] at B1
                    clear q1
                    go_wp2
                    go_roundg ge
                    case measure => omega
                    case rel => exact ⟨e + 1, s4, by omega, by go_num, by first | rfl | go_num, by repeat (first | exact Ext.refl _ | assumption | apply Ext.drewN' | apply Ext.alloc' | refine Ext.trans ?_ (by assumption)), by omega, by omega, Lib.hid (by rw [← He.out, Hst.out, HN.out])⟩
                  rcases bitI_01 l b with q2 | q2
                  · have HN := Lib.hid (isoStep_no (D := D) (a := a) (b := b) (c := c) (e := e) (s := s4) (fun k => absurd (q2.symm.trans k.2.1) (by decide)))
                    rw [q1] at B1
                    rw [q2] at B2
                    clear q1 q2
                    go_wp2
                    go_roundg ge
                    case measure => omega
                    case rel => exact ⟨e + 1, s4, by omega, by go_num, by first | rfl | go_num, by repeat (first | exact Ext.refl _ | assumption | apply Ext.drewN' | apply Ext.alloc' | refine Ext.trans ?_ (by assumption)), by omega, by omega, Lib.hid (by rw [← He.out, Hst.out, HN.out])⟩
                  rcases bitI_01 l c with q3 | q3
                  rotate_left
                  · have HN := Lib.hid (isoStep_no (D := D) (a := a) (b := b) (c := c) (e := e) (s := s4) (fun k => absurd (q3.symm.trans k.2.2.1) (by decide)))
                    rw [q1] at B1
                    rw [q2] at B2
                    rw [q3] at B3
                    clear q1 q2 q3
                    go_wp2
                    go_roundg ge
                    case measure => omega
                    case rel => exact ⟨e + 1, s4, by omega, by go_num, by first | rfl | go_num, by repeat (first | exact Ext.refl _ | assumption | apply Ext.drewN' | apply Ext.alloc' | refine Ext.trans ?_ (by assumption)), by omega, by omega, Lib.hid (by rw [← He.out, Hst.out, HN.out])⟩
                  rcases bitI_01 l e with q4 | q4
                  rotate_left
                  · have HN := Lib.hid (isoStep_no (D := D) (a := a) (b := b) (c := c) (e := e) (s := s4) (fun k => absurd (q4.symm.trans k.2.2.2) (by decide)))
                    rw [q1] at B1
                    rw [q2] at B2
                    rw [q3] at B3
                    rw [q4] at B4
                    clear q1 q2 q3 q4
                    go_wp2
                    go_roundg ge
                    case measure => omega
                    case rel => exact ⟨e + 1, s4, by omega, by go_num, by first | rfl | go_num, by repeat (first | exact Ext.refl _ | assumption | apply Ext.drewN' | apply Ext.alloc' | refine Ext.trans ?_ (by assumption)), by omega, by omega, Lib.hid (by rw [← He.out, Hst.out, HN.out])⟩
                  have HN := Lib.hid (isoStep_yes (D := D) (a := a) (b := b) (c := c) (e := e) (s := s4) ⟨q1, q2, q3, q4⟩)
                  rw [q1] at B1
                  rw [q2] at B2
                  rw [q3] at B3
                  rw [q4] at B4
                  clear q1 q2 q3 q4
                  go_wp2_with fail
                  refine (HC.out a b c e hina hinb hinc hine _ (HM.out.ext (by repeat (first | exact Ext.refl _ | assumption | apply Ext.drewN' | apply Ext.alloc' | refine Ext.trans ?_ (by assumption))))).mono ?_
                  rintro e1 w1 ⟨v1, rfl, hv, -, hx1⟩
                  obtain ⟨A1, c1, rfl, hI⟩ := hv.ints
                  obtain ⟨-, -, b1, o1, hA1, hc1⟩ := id hI
                  obtain rfl := hA1 (by show 0 < 3; decide)
                  have k0 := hc1 0 (by show 0 < 3; decide)
                  simp only [Nat.add_zero] at k0
                  have HI := Lib.hid hI
                  have hg0 : 0 ≤ gap4 D a b c e ∧ gap4 D a b c e ≤ 120 := by
                    obtain ⟨p1, p1', -, -⟩ := HCE.out a hina b hinb
                    obtain ⟨p2, p2', -, -⟩ := HCE.out c hinc e hine
                    obtain ⟨p3, p3', -, -⟩ := HCE.out a hina c hinc
                    obtain ⟨p4, p4', -, -⟩ := HCE.out b hinb e hine
                    obtain ⟨p5, p5', -, -⟩ := HCE.out a hina e hine
                    obtain ⟨p6, p6', -, -⟩ := HCE.out b hinb c hinc
                    show 0 ≤ max (max (at2 D a b + at2 D c e) (at2 D a c + at2 D b e)) (at2 D a e + at2 D b c) - (at2 D a b + at2 D c e) ∧ max (max (at2 D a b + at2 D c e) (at2 D a c + at2 D b e)) (at2 D a e + at2 D b c) - (at2 D a b + at2 D c e) ≤ 120
                    omega
                  have hps : 0 ≤ ix (psL D a b c e) 0 ∧ ix (psL D a b c e) 0 ≤ 120 := by
                    obtain ⟨p1, p1', -, -⟩ := HCE.out a hina b hinb
                    obtain ⟨p2, p2', -, -⟩ := HCE.out c hinc e hine
                    show 0 ≤ at2 D a b + at2 D c e ∧ at2 D a b + at2 D c e ≤ 120
                    omega
                  have hgd : maxI (psL D a b c e) = gap4 D a b c e + ix (psL D a b c e) 0 := by unfold gap4; omega
                  have HG := Lib.hid hgd
                  obtain ⟨hg1, hg2⟩ := hg0
                  obtain ⟨hp1, hp2⟩ := hps
                  have hm1 : 0 ≤ maxI (psL D a b c e) := by omega
                  have hm2 : maxI (psL D a b c e) ≤ 240 := by omega
                  clear hc1 hI hA1 hv hgd
                  have HSM := Lib.hid (fun W (k : Ints W (some ⟨b1, o1, none⟩) c1 (psL D a b c e)) => slicesMax_any (some ⟨b1, o1, none⟩) c1 (psL D a b c e) W k (by show 0 < 3; decide))
                  have hpl : (0 : Int) < ((psL D a b c e).length : Nat) := by show (0 : Int) < ((3 : Nat) : Int); decide
                  by_cases hle : s4 ≤ maxI (psL D a b c e) - ix (psL D a b c e) 0
                  · have HE := Lib.hid (show min s4 (gap4 D a b c e) = s4 from Int.min_eq_left (by unfold gap4; exact hle))
                    go_wp2_with fail
                    go_quiet ((go_at_call 97; (first | exact Calls.quiet_of_same (HSM.out _ (by exact HI.out)) | exact quiet_add_same (HSM.out _ (by exact HI.out)) | exact Calls.quiet_of (HSM.out _ (by exact HI.out)) | exact quiet_add (HSM.out _ (by exact HI.out)))))
                    go_wp2
                    go_roundg ge
                    case measure => omega
                    case rel => exact ⟨e + 1, s4, by omega, by go_num, by first | rfl | go_num, by repeat (first | exact Ext.refl _ | assumption | apply Ext.drewN' | apply Ext.alloc' | refine Ext.trans ?_ (by assumption)), by omega, by omega, Lib.hid (by rw [← He.out, Hst.out, HN.out, HE.out])⟩
                  · have HE := Lib.hid (show min s4 (gap4 D a b c e) = gap4 D a b c e from Int.min_eq_right (by unfold gap4; omega))
                    go_wp2_with fail
                    go_quiet ((go_at_call 97; (first | exact Calls.quiet_of_same (HSM.out _ (by exact HI.out)) | exact quiet_add_same (HSM.out _ (by exact HI.out)) | exact Calls.quiet_of (HSM.out _ (by exact HI.out)) | exact quiet_add (HSM.out _ (by exact HI.out)))))
                    go_wp2
                    go_roundg ge
                    case measure => omega
                    case rel => exact ⟨e + 1, gap4 D a b c e, by omega, by go_num, by first | rfl | go_num, by repeat (first | exact Ext.refl _ | assumption | apply Ext.drewN' | apply Ext.alloc' | refine Ext.trans ?_ (by assumption)), by omega, by omega, Lib.hid (by rw [← He.out, Hst.out, HN.out, HE.out])⟩
                · have hine' : ¬ (e : Int) < (D.length : Nat) := by omega
                  obtain rfl : gk = 0 := by omega
                  have HT := Lib.hid (show s4 = iso1 D l a b c D.length 0 s3 from He.out)
                  clear He
                  go_wp2
                  go_roundg gc
                  case measure => omega
                  case rel => exact ⟨c + 1, s4, by omega, by go_num, by first | rfl | go_num, by repeat (first | exact Ext.refl _ | assumption | apply Ext.drewN' | apply Ext.alloc' | refine Ext.trans ?_ (by assumption)), by omega, by omega, Lib.hid (by rw [← Hc.out]; show _ = iso2 D l a b gc (c + 1) (iso1 D l a b c D.length 0 s3); rw [← HT.out])⟩
            · have hinc' : ¬ (c : Int) < (D.length : Nat) := by omega
              obtain rfl : gk = 0 := by omega
              have HT := Lib.hid (show s3 = iso2 D l a b D.length 0 s2 from Hc.out)
              clear Hc
              go_wp2
              go_roundg gb
              case measure => omega
              case rel => exact ⟨b + 1, s3, by omega, by go_num, by first | rfl | go_num, by repeat (first | exact Ext.refl _ | assumption | apply Ext.drewN' | apply Ext.alloc' | refine Ext.trans ?_ (by assumption)), by omega, by omega, Lib.hid (by rw [← Hb.out]; show _ = iso3 D l a gb (b + 1) (iso2 D l a b D.length 0 s2); rw [← HT.out])⟩
        · have hinb' : ¬ (b : Int) < (D.length : Nat) := by omega
          obtain rfl : gk = 0 := by omega
          have HT := Lib.hid (show s2 = iso3 D l a D.length 0 s1 from Hb.out)
          clear Hb
          go_wp2
          go_roundg ga
          case measure => omega
          case rel => exact ⟨a + 1, s2, by omega, by go_num, by first | rfl | go_num, by repeat (first | exact Ext.refl _ | assumption | apply Ext.drewN' | apply Ext.alloc' | refine Ext.trans ?_ (by assumption)), by omega, by omega, Lib.hid (by rw [← Ha.out, itR, ← HT.out])⟩
    · have hina' : ¬ (a : Int) < (D.length : Nat) := by omega
      obtain rfl : gk = 0 := by omega
      go_wp2
      go_ret
      exact ⟨ret_int (by rw [← Ha.out]; rfl), (by repeat (first | exact Ext.refl _ | assumption | apply Ext.drewN' | apply Ext.alloc' | refine Ext.trans ?_ (by assumption)))⟩

where
  splitB_parts' {D : List (List Int)} {l : Int} (h : splitB D l = true) : spB D = true ∧ 2 ≤ D.length ∧ D.length ≤ 6 ∧ 1 ≤ l ∧ l < 2 ^ (D.length - 1) ∧ l ≤ 31 := by
    unfold splitB at h
    simp only [Bool.and_eq_true, decide_eq_true_eq] at h
    obtain ⟨hs, h2, h3, h4⟩ := h
    have h6 := (spB_len hs).2
    have hp : (2 : Int) ^ (D.length - 1) ≤ 2 ^ 5 := by exact_mod_cast Nat.pow_le_pow_right (by decide) (by omega)
    have h5 : (2 : Int) ^ 5 = 32 := by decide
    exact ⟨hs, h2, h6, h3, h4, by omega⟩
end Go.Proofs.YtnalcgcdohlfiaaGreatDoor
namespace Go.Proofs.YtnalcgcdohlfiaaGreatDoor
open Go.RowKit

def sisoStep (D : List (List Int)) (a b c e : Nat) (s : Int) : Int := if s < 0 ∨ gap4 D a b c e < s then gap4 D a b c e else s
def sis1 (D : List (List Int)) (l : Int) (a b c : Nat) : Nat → Nat → Int → Int := itR (fun e s => if bitI l c = 1 ∨ bitI l e = 1 then s else sisoStep D a b c e s)
def sis2 (D : List (List Int)) (l : Int) (a b : Nat) : Nat → Nat → Int → Int := itR (fun c s => sis1 D l a b c (c + 1) 0 s)
def sis3 (D : List (List Int)) (l : Int) (a : Nat) : Nat → Nat → Int → Int := itR (fun b s => if bitI l a = 0 ∨ bitI l b = 0 then s else sis2 D l a b D.length 0 s)
def sisoI (D : List (List Int)) (l : Int) : Int := itR (fun a s => sis3 D l a (a + 1) 0 s) D.length 0 (-1)
theorem gap4_bd {D : List (List Int)} (hf : farB D = true) {a b c e : Nat} (ha : a < D.length) (hb : b < D.length) (hc : c < D.length) (he : e < D.length) : 0 ≤ gap4 D a b c e ∧ gap4 D a b c e ≤ 120 := by
  obtain ⟨_, _, hcells⟩ := farB_parts hf
  obtain ⟨p1, p1', -, -⟩ := hcells a ha b hb
  obtain ⟨p2, p2', -, -⟩ := hcells c hc e he
  obtain ⟨p3, p3', -, -⟩ := hcells a ha c hc
  obtain ⟨p4, p4', -, -⟩ := hcells b hb e he
  obtain ⟨p5, p5', -, -⟩ := hcells a ha e he
  obtain ⟨p6, p6', -, -⟩ := hcells b hb c hc
  show 0 ≤ max (max (at2 D a b + at2 D c e) (at2 D a c + at2 D b e)) (at2 D a e + at2 D b c) - (at2 D a b + at2 D c e) ∧ max (max (at2 D a b + at2 D c e) (at2 D a c + at2 D b e)) (at2 D a e + at2 D b c) - (at2 D a b + at2 D c e) ≤ 120
  omega

theorem gap4_if (D : List (List Int)) (a b c e : Nat) : ((if (if at2 D a b + at2 D c e < at2 D a c + at2 D b e then at2 D a c + at2 D b e else at2 D a b + at2 D c e) < at2 D a e + at2 D b c then at2 D a e + at2 D b c
    else if at2 D a b + at2 D c e < at2 D a c + at2 D b e then at2 D a c + at2 D b e else at2 D a b + at2 D c e) - (at2 D a b + at2 D c e)) = gap4 D a b c e := by
  show _ = max (max (at2 D a b + at2 D c e) (at2 D a c + at2 D b e)) (at2 D a e + at2 D b c) - (at2 D a b + at2 D c e)
  omega
theorem bitI_tmod (l : Int) (k : Nat) (h0 : 0 ≤ l) : (l / 2 ^ k).tmod 2 = bitI l k := by
  have hp : (0 : Int) < 2 ^ k := Int.pow_pos (by decide)
  have hq : 0 ≤ l / 2 ^ k := Int.ediv_nonneg h0 (by omega)
  exact Int.tmod_eq_emod_of_nonneg hq

set_option maxRecDepth 100000 in
set_option maxHeartbeats 8000000 in
theorem l10Isolated_any (A : Option Addr) (cp : Nat) (D : List (List Int)) (l : Int) (w : World) (h : Mat w A cp D) (hf : farB D = true) (hl0 : 0 ≤ l) :
    Calls Tryz.prog 82 #[.slice A D.length cp, .int .i64 l] w fun e w' => e = .returned (.int .i64 (sisoI D l)) ∧ ∃ m, w' = w.drewN m := by
  obtain ⟨⟨hn1, hn6⟩, hsq, hcells⟩ := farB_parts hf
  obtain ⟨bk, o, rc, rb, ro, hA, hrow, -, hcell, -⟩ := h.square hsq
  obtain rfl := hA (by omega)
  have HTM := Lib.hid (fun k => bitI_tmod l k hl0)
  have HG := Lib.hid (fun (a b c e : Nat) (ha : a < D.length) (hb : b < D.length) (hc : c < D.length) (he : e < D.length) => gap4_bd hf ha hb hc he)
  have HR := Lib.hid hrow
  have HCE := Lib.hid hcell
  have HBD := Lib.hid hcells
  clear hf hsq hrow hcell hcells h hA
  go_enter Tryz.func82, Tryz.ntmps82
  go_wp2
  go_loopg [6, 5] (D.length) (fun g s6 s5 wr => ∃ (a m : Nat) (s1 : Int), a + g = D.length ∧ s6 = .int .i64 a ∧ s5 = .int .i64 s1 ∧ wr = w.drewN m ∧ -1 ≤ s1 ∧ s1 ≤ 240 ∧ Hid (itR (fun a s => sis3 D l a (a + 1) 0 s) g a s1 = sisoI D l))
  case atStart => exact ⟨0, _, _, by omega, rfl, rfl, by first | rfl | exact drewN_0 _ | exact drewN_add _ _ _, by omega, by omega, Lib.hid (rfl)⟩
  case round =>
    obtain ⟨a, ma, s1, ha, rfl, rfl, rfl, hs1, hs1', Ha⟩ := hrel
    by_cases hina : a < D.length
    · obtain ⟨ga, rfl⟩ : ∃ g', gk = g' + 1 := ⟨gk - 1, by omega⟩
      have hina' : (a : Int) < (D.length : Nat) := by omega
      go_wp2
      go_loopg [7, 5] (a+1) (fun g s7 s5 wr => ∃ (b m : Nat) (s2 : Int), b + g = a+1 ∧ s7 = .int .i64 b ∧ s5 = .int .i64 s2 ∧ wr = w.drewN m ∧ -1 ≤ s2 ∧ s2 ≤ 240 ∧ Hid (sis3 D l a g b s2 = sis3 D l a (a + 1) 0 s1))
      case atStart => exact ⟨0, _, _, by omega, rfl, rfl, by first | rfl | exact drewN_0 _ | exact drewN_add _ _ _, by omega, by omega, Lib.hid (rfl)⟩
      case round =>
        obtain ⟨b, mb, s2, hb, rfl, rfl, rfl, hs2, hs2', Hb⟩ := hrel
        by_cases hinb : b < a+1
        · obtain ⟨gb, rfl⟩ : ∃ g', gk = g' + 1 := ⟨gk - 1, by omega⟩
          have hinb' : (b : Int) < (a+1 : Nat) := by omega
          have hdb : decide (b ≤ a) = true := decide_eq_true (by omega)
          have Hst := Lib.hid (show sis3 D l a (gb + 1) b s2 = sis3 D l a gb (b + 1) (if bitI l a = 0 ∨ bitI l b = 0 then s2 else sis2 D l a b D.length 0 s2) from rfl)
          rcases bitI_01 l a with q1 | q1
          · have B1 : (l / 2 ^ a).tmod 2 = 0 := (HTM.out a).trans q1
            have HQ := Lib.hid q1
            clear q1
            go_wp2
            go_roundg gb
            case measure => omega
            case rel => exact ⟨b + 1, _, s2, by omega, by go_num, by first | rfl | go_num, by first | rfl | exact drewN_0 _ | exact drewN_add _ _ _, by omega, by omega, Lib.hid (by rw [← Hb.out, Hst.out, if_pos (.inl HQ.out)])⟩
          rcases bitI_01 l b with q2 | q2
          · have B1 : (l / 2 ^ a).tmod 2 = 1 := (HTM.out a).trans q1
            have B2 : (l / 2 ^ b).tmod 2 = 0 := (HTM.out b).trans q2
            have HQ := Lib.hid q2
            clear q1 q2
            go_wp2
            go_roundg gb
            case measure => omega
            case rel => exact ⟨b + 1, _, s2, by omega, by go_num, by first | rfl | go_num, by first | rfl | exact drewN_0 _ | exact drewN_add _ _ _, by omega, by omega, Lib.hid (by rw [← Hb.out, Hst.out, if_pos (.inr HQ.out)])⟩
          have B1 : (l / 2 ^ a).tmod 2 = 1 := (HTM.out a).trans q1
          have B2 : (l / 2 ^ b).tmod 2 = 1 := (HTM.out b).trans q2
          have Hst2 := Lib.hid (show sis3 D l a (gb + 1) b s2 = sis3 D l a gb (b + 1) (sis2 D l a b D.length 0 s2) by rw [Hst.out, if_neg (fun k => by rcases k with k | k; exact absurd (q1.symm.trans k) (by decide); exact absurd (q2.symm.trans k) (by decide))])
          clear q1 q2 Hst
          go_wp2
          clear B1 B2
          go_loopg [8, 5] (D.length) (fun g s8 s5 wr => ∃ (c m : Nat) (s3 : Int), c + g = D.length ∧ s8 = .int .i64 c ∧ s5 = .int .i64 s3 ∧ wr = w.drewN m ∧ -1 ≤ s3 ∧ s3 ≤ 240 ∧ Hid (sis2 D l a b g c s3 = sis2 D l a b D.length 0 s2))
          case atStart => exact ⟨0, _, _, by omega, rfl, rfl, by first | rfl | exact drewN_0 _ | exact drewN_add _ _ _, by omega, by omega, Lib.hid (rfl)⟩
          case round =>
            obtain ⟨c, mc, s3, hc, rfl, rfl, rfl, hs3, hs3', Hc⟩ := hrel
            by_cases hinc : c < D.length
            · obtain ⟨gc, rfl⟩ : ∃ g', gk = g' + 1 := ⟨gk - 1, by omega⟩
              have hinc' : (c : Int) < (D.length : Nat) := by omega
              go_wp2
              go_loopg [9, 5] (c+1) (fun g s9 s5 wr => ∃ (e m : Nat) (s4 : Int), e + g = c+1 ∧ s9 = .int .i64 e ∧ s5 = .int .i64 s4 ∧ wr = w.drewN m ∧ -1 ≤ s4 ∧ s4 ≤ 240 ∧ Hid (sis1 D l a b c g e s4 = sis1 D l a b c (c + 1) 0 s3))
              case atStart => exact ⟨0, _, _, by omega, rfl, rfl, by first | rfl | exact drewN_0 _ | exact drewN_add _ _ _, by omega, by omega, Lib.hid (rfl)⟩
              case round =>
                obtain ⟨e, me, s4, he, rfl, rfl, rfl, hs4, hs4', He⟩ := hrel
                by_cases hine : e < c+1
                · obtain ⟨ge, rfl⟩ : ∃ g', gk = g' + 1 := ⟨gk - 1, by omega⟩
                  have hine' : (e : Int) < (c+1 : Nat) := by omega
                  have hde : decide (e ≤ c) = true := decide_eq_true (by omega)
                  have Hst := Lib.hid (show sis1 D l a b c (ge + 1) e s4 = sis1 D l a b c ge (e + 1) (if bitI l c = 1 ∨ bitI l e = 1 then s4 else sisoStep D a b c e s4) from rfl)
                  rcases bitI_01 l c with q3 | q3
                  rotate_left
                  · have B3 : (l / 2 ^ c).tmod 2 = 1 := (HTM.out c).trans q3
                    have HQ := Lib.hid q3
                    clear q3
                    go_wp2
                    go_roundg ge
                    case measure => omega
                    case rel => exact ⟨e + 1, _, s4, by omega, by go_num, by first | rfl | go_num, by first | rfl | exact drewN_0 _ | exact drewN_add _ _ _, by omega, by omega, Lib.hid (by rw [← He.out, Hst.out, if_pos (.inl HQ.out)])⟩
                  rcases bitI_01 l e with q4 | q4
                  rotate_left
                  · have B3 : (l / 2 ^ c).tmod 2 = 0 := (HTM.out c).trans q3
                    have B4 : (l / 2 ^ e).tmod 2 = 1 := (HTM.out e).trans q4
                    have HQ := Lib.hid q4
                    clear q3 q4
                    go_wp2
                    go_roundg ge
                    case measure => omega
                    case rel => exact ⟨e + 1, _, s4, by omega, by go_num, by first | rfl | go_num, by first | rfl | exact drewN_0 _ | exact drewN_add _ _ _, by omega, by omega, Lib.hid (by rw [← He.out, Hst.out, if_pos (.inr HQ.out)])⟩
                  have B3 : (l / 2 ^ c).tmod 2 = 0 := (HTM.out c).trans q3
                  have B4 : (l / 2 ^ e).tmod 2 = 0 := (HTM.out e).trans q4
                  have Hst2 := Lib.hid (show sis1 D l a b c (ge + 1) e s4 = sis1 D l a b c ge (e + 1) (sisoStep D a b c e s4) by rw [Hst.out, if_neg (fun k => by rcases k with k | k; exact absurd (q3.symm.trans k) (by decide); exact absurd (q4.symm.trans k) (by decide))])
                  clear q3 q4 Hst
                  have hbn : b < D.length := by omega
                  have hen : e < D.length := by omega
                  have r1 := HR.out a hina
                  have r2 := HR.out b hbn
                  have r3 := HR.out c hinc
                  have c1 := HCE.out a hina b hbn
                  have c2 := HCE.out c hinc e hen
                  have c3 := HCE.out a hina c hinc
                  have c4 := HCE.out b hbn e hen
                  have c5 := HCE.out a hina e hen
                  have c6 := HCE.out b hbn c hinc
                  obtain ⟨p1, p1', -, -⟩ := HBD.out a hina b hbn
                  obtain ⟨p2, p2', -, -⟩ := HBD.out c hinc e hen
                  obtain ⟨p3, p3', -, -⟩ := HBD.out a hina c hinc
                  obtain ⟨p4, p4', -, -⟩ := HBD.out b hbn e hen
                  obtain ⟨p5, p5', -, -⟩ := HBD.out a hina e hen
                  obtain ⟨p6, p6', -, -⟩ := HBD.out b hbn c hinc
                  have hbn' : (b : Int) < (D.length : Nat) := by omega
                  have hen' : (e : Int) < (D.length : Nat) := by omega
                  go_wp2
                  go_quiet (fail)
                  go_wp2
                  clear B3 B4
                  go_quiet (fail)
                  have HM3 := gap4_if D a b c e
                  rw [HM3]
                  clear HM3 c1 c2 c3 c4 c5 c6 r1 r2 r3 p1 p1' p2 p2' p3 p3' p4 p4' p5 p5' p6 p6'
                  obtain ⟨g1, g2⟩ := HG.out a b c e hina hbn hinc hen
                  by_cases hs : s4 < 0
                  · have HE := Lib.hid (show sisoStep D a b c e s4 = gap4 D a b c e from if_pos (.inl hs))
                    go_wp2
                    all_goals
                      go_roundg ge
                      case measure => omega
                      case rel => exact ⟨e + 1, _, gap4 D a b c e, by omega, by go_num, by first | rfl | go_num, by first | rfl | exact drewN_0 _ | exact drewN_add _ _ _, by omega, by omega, Lib.hid (by rw [← He.out, Hst2.out, HE.out])⟩
                  by_cases hlt : gap4 D a b c e < s4
                  · have HE := Lib.hid (show sisoStep D a b c e s4 = gap4 D a b c e from if_pos (.inr hlt))
                    go_wp2
                    all_goals
                      go_roundg ge
                      case measure => omega
                      case rel => exact ⟨e + 1, _, gap4 D a b c e, by omega, by go_num, by first | rfl | go_num, by first | rfl | exact drewN_0 _ | exact drewN_add _ _ _, by omega, by omega, Lib.hid (by rw [← He.out, Hst2.out, HE.out])⟩
                  have HE := Lib.hid (show sisoStep D a b c e s4 = s4 from if_neg (by omega))
                  go_wp2
                  all_goals
                    go_roundg ge
                    case measure => omega
                    case rel => exact ⟨e + 1, _, s4, by omega, by go_num, by first | rfl | go_num, by first | rfl | exact drewN_0 _ | exact drewN_add _ _ _, by omega, by omega, Lib.hid (by rw [← He.out, Hst2.out, HE.out])⟩
                · have hine' : ¬ (e : Int) < (c+1 : Nat) := by omega
                  obtain rfl : gk = 0 := by omega
                  have HT := Lib.hid (show s4 = sis1 D l a b c (c + 1) 0 s3 from He.out)
                  clear He
                  go_wp2
                  go_roundg gc
                  case measure => omega
                  case rel => exact ⟨c + 1, _, s4, by omega, by go_num, by first | rfl | go_num, by first | rfl | exact drewN_0 _ | exact drewN_add _ _ _, by omega, by omega, Lib.hid (by rw [← Hc.out]; show _ = sis2 D l a b gc (c + 1) (sis1 D l a b c (c + 1) 0 s3); rw [← HT.out])⟩
            · have hinc' : ¬ (c : Int) < (D.length : Nat) := by omega
              obtain rfl : gk = 0 := by omega
              have HT := Lib.hid (show s3 = sis2 D l a b D.length 0 s2 from Hc.out)
              clear Hc
              go_wp2
              go_roundg gb
              case measure => omega
              case rel => exact ⟨b + 1, _, s3, by omega, by go_num, by first | rfl | go_num, by first | rfl | exact drewN_0 _ | exact drewN_add _ _ _, by omega, by omega, Lib.hid (by rw [← Hb.out, Hst2.out, ← HT.out])⟩
        · have hinb' : ¬ (b : Int) < (a+1 : Nat) := by omega
          obtain rfl : gk = 0 := by omega
          have HT := Lib.hid (show s2 = sis3 D l a (a + 1) 0 s1 from Hb.out)
          clear Hb
          go_wp2
          go_roundg ga
          case measure => omega
          case rel => exact ⟨a + 1, _, s2, by omega, by go_num, by first | rfl | go_num, by first | rfl | exact drewN_0 _ | exact drewN_add _ _ _, by omega, by omega, Lib.hid (by rw [← Ha.out, itR, ← HT.out])⟩
    · have hina' : ¬ (a : Int) < (D.length : Nat) := by omega
      obtain rfl : gk = 0 := by omega
      go_wp2
      go_ret
      exact ⟨ret_int (by rw [← Ha.out]; rfl), _, by first | rfl | exact drewN_add _ _ _⟩

end Go.Proofs.YtnalcgcdohlfiaaGreatDoor
namespace Go.Proofs.YtnalcgcdohlfiaaGreatDoor
open Go.RowKit

/-- m is the least value of f where q holds, at most t; t where it holds nowhere -/
def LeastOr (m t : Int) (S : Int → Prop) : Prop := m ≤ t ∧ (∀ x, S x → m ≤ x) ∧ (m = t ∨ S m)

/-- what the loops over a state of one number make: each value of S joins by min -/
theorem itR_least {f : Nat → Int → Int} {S : Nat → Int → Prop} (n : Nat) (s : Int) (hf : ∀ k, k < n → ∀ s, LeastOr (f k s) s (S k)) : LeastOr (itR f n 0 s) s (fun x => ∃ k, k < n ∧ S k x) := by
  have := itR_inv (f := f) (fun j (t : Int) => LeastOr t s (fun x => ∃ k, k < j ∧ S k x)) n 0 s ⟨Int.le_refl _, fun x ⟨k, hk, _⟩ => absurd hk (by omega), .inl rfl⟩ (fun j t _ hj h => by
    obtain ⟨h1, h2, h3⟩ := h
    obtain ⟨g1, g2, g3⟩ := hf j (by omega) t
    refine ⟨by omega, fun x hx => ?_, ?_⟩
    · obtain ⟨k, hk, hx⟩ := hx
      by_cases e : k = j
      · subst e; exact g2 x hx
      · have := h2 x ⟨k, by omega, hx⟩; omega
    · rcases g3 with g3 | g3
      · rcases h3 with h3 | ⟨k, hk, h3⟩
        · left; rw [g3]; exact h3
        · right; rw [g3]; exact ⟨k, by omega, h3⟩
      · right; exact ⟨j, by omega, g3⟩)
  simpa using this
theorem LeastOr.congr {m t : Int} {S T : Int → Prop} (h : LeastOr m t S) (e : ∀ x, S x ↔ T x) : LeastOr m t T := ⟨h.1, fun x hx => h.2.1 x ((e x).2 hx), h.2.2.imp id fun k => (e m).1 k⟩

/-- the values of a lot -/
def IsoS (D : List (List Int)) (l : Int) (x : Int) : Prop := ∃ a, a < D.length ∧ ∃ b, b < D.length ∧ ∃ c, c < D.length ∧ ∃ e, e < D.length ∧ (bitI l a = 1 ∧ bitI l b = 1 ∧ bitI l c = 0 ∧ bitI l e = 0) ∧ x = gap4 D a b c e
theorem isoI_least (D : List (List Int)) (l : Int) : LeastOr (isoI D l) 240 (IsoS D l) := by
  unfold isoI
  refine (itR_least (S := fun a x => ∃ b, b < D.length ∧ ∃ c, c < D.length ∧ ∃ e, e < D.length ∧ (bitI l a = 1 ∧ bitI l b = 1 ∧ bitI l c = 0 ∧ bitI l e = 0) ∧ x = gap4 D a b c e) _ _ fun a _ s => ?_).congr fun x => Iff.rfl
  unfold iso3
  refine (itR_least (S := fun b x => ∃ c, c < D.length ∧ ∃ e, e < D.length ∧ (bitI l a = 1 ∧ bitI l b = 1 ∧ bitI l c = 0 ∧ bitI l e = 0) ∧ x = gap4 D a b c e) _ _ fun b _ s => ?_).congr fun x => Iff.rfl
  unfold iso2
  refine (itR_least (S := fun c x => ∃ e, e < D.length ∧ (bitI l a = 1 ∧ bitI l b = 1 ∧ bitI l c = 0 ∧ bitI l e = 0) ∧ x = gap4 D a b c e) _ _ fun c _ s => ?_).congr fun x => Iff.rfl
  unfold iso1
  refine (itR_least (S := fun e x => (bitI l a = 1 ∧ bitI l b = 1 ∧ bitI l c = 0 ∧ bitI l e = 0) ∧ x = gap4 D a b c e) _ _ fun e _ s => ?_).congr fun x => Iff.rfl
  by_cases h : bitI l a = 1 ∧ bitI l b = 1 ∧ bitI l c = 0 ∧ bitI l e = 0
  · rw [isoStep_yes h]
    refine ⟨Int.min_le_left _ _, fun x hx => by rw [hx.2]; exact Int.min_le_right _ _, ?_⟩
    rcases Int.le_total s (gap4 D a b c e) with q | q
    · exact .inl (Int.min_eq_left q)
    · exact .inr ⟨h, Int.min_eq_right q⟩
  · rw [isoStep_no h]
    exact ⟨Int.le_refl _, fun x hx => absurd hx.1 h, .inl rfl⟩

/-- the same with -1 for 'none yet' -/
def LeastNo (m t : Int) (S : Int → Prop) : Prop := (t < 0 → ((m = t ∧ ∀ x, ¬ S x) ∨ (S m ∧ ∀ x, S x → m ≤ x))) ∧ (0 ≤ t → LeastOr m t S)
theorem LeastNo.congr {m t : Int} {S T : Int → Prop} (h : LeastNo m t S) (e : ∀ x, S x ↔ T x) : LeastNo m t T :=
  ⟨fun ht => (h.1 ht).imp (fun k => ⟨k.1, fun x hx => k.2 x ((e x).2 hx)⟩) (fun k => ⟨(e m).1 k.1, fun x hx => k.2 x ((e x).2 hx)⟩), fun ht => (h.2 ht).congr e⟩
theorem itR_leastNo {f : Nat → Int → Int} {S : Nat → Int → Prop} (n : Nat) (s : Int) (hS : ∀ k, k < n → ∀ x, S k x → 0 ≤ x) (hf : ∀ k, k < n → ∀ s, -1 ≤ s → LeastNo (f k s) s (S k)) (h1 : -1 ≤ s) : LeastNo (itR f n 0 s) s (fun x => ∃ k, k < n ∧ S k x) := by
  have := itR_inv (f := f) (fun j (t : Int) => -1 ≤ t ∧ LeastNo t s (fun x => ∃ k, k < j ∧ S k x)) n 0 s ⟨h1, fun _ => .inl ⟨rfl, fun x ⟨k, hk, _⟩ => absurd hk (by omega)⟩, fun _ => ⟨Int.le_refl _, fun x ⟨k, hk, _⟩ => absurd hk (by omega), .inl rfl⟩⟩ (fun j t _ hj h => by
    obtain ⟨h0, h2, h3⟩ := h
    have hfj := hf j (by omega) t h0
    have hSj := hS j (by omega)
    by_cases ht : t < 0
    · have hs : s < 0 := by
        rcases Int.lt_or_le s 0 with q | q
        · exact q
        · obtain ⟨_, _, k⟩ := h3 q
          rcases k with k | ⟨k, hk, k2⟩
          · omega
          · have := hS k (by omega) t k2; omega
      have hno : ∀ x, ¬ ∃ k, k < j ∧ S k x := by
        rcases h2 hs with ⟨_, q⟩ | ⟨⟨k, hk, q⟩, _⟩
        · exact q
        · have := hS k (by omega) t q; omega
      rcases hfj.1 ht with ⟨q1, q2⟩ | ⟨q1, q2⟩
      · refine ⟨by rw [q1]; exact h0, fun _ => .inl ⟨?_, fun x ⟨k, hk, hx⟩ => ?_⟩, fun h => absurd h (by omega)⟩
        · rw [q1]
          rcases h2 hs with ⟨q, _⟩ | ⟨q, _⟩
          · exact q
          · exact absurd q (hno t)
        · by_cases e : k = j
          · subst e; exact q2 x hx
          · exact hno x ⟨k, by omega, hx⟩
      · refine ⟨by have := hSj _ q1; omega, fun _ => .inr ⟨⟨j, by omega, q1⟩, fun x ⟨k, hk, hx⟩ => ?_⟩, fun h => absurd h (by omega)⟩
        by_cases e : k = j
        · subst e; exact q2 x hx
        · exact absurd ⟨k, by omega, hx⟩ (hno x)
    · obtain ⟨g1, g2, g3⟩ := hfj.2 (by omega)
      have g4 : 0 ≤ f j t := by
        rcases g3 with g3 | g3
        · omega
        · exact hSj _ g3
      refine ⟨by omega, fun hs => .inr ?_, fun hs => ?_⟩
      · rcases h2 hs with ⟨q, _⟩ | ⟨⟨k0, hk0, q⟩, q2⟩
        · omega
        · refine ⟨?_, fun x ⟨k, hk, hx⟩ => ?_⟩
          · rcases g3 with g3 | g3
            · rw [g3]; exact ⟨k0, by omega, q⟩
            · exact ⟨j, by omega, g3⟩
          · by_cases e : k = j
            · subst e; exact g2 x hx
            · have := q2 x ⟨k, by omega, hx⟩; omega
      · obtain ⟨p1, p2, p3⟩ := h3 hs
        refine ⟨by omega, fun x ⟨k, hk, hx⟩ => ?_, ?_⟩
        · by_cases e : k = j
          · subst e; exact g2 x hx
          · have := p2 x ⟨k, by omega, hx⟩; omega
        · rcases g3 with g3 | g3
          · rcases p3 with p3 | ⟨k, hk, p3⟩
            · left; omega
            · right; rw [g3]; exact ⟨k, by omega, p3⟩
          · right; exact ⟨j, by omega, g3⟩)
  have := this.2
  simpa using this

def SisoS (D : List (List Int)) (l : Int) (x : Int) : Prop := ∃ a, a < D.length ∧ ∃ b, b < a + 1 ∧ ∃ c, c < D.length ∧ ∃ e, e < c + 1 ∧ (bitI l a = 1 ∧ bitI l b = 1 ∧ bitI l c = 0 ∧ bitI l e = 0) ∧ x = gap4 D a b c e
theorem sisoI_least {D : List (List Int)} (hf : farB D = true) (l : Int) : LeastNo (sisoI D l) (-1) (SisoS D l) := by
  unfold sisoI
  refine (itR_leastNo (S := fun a x => ∃ b, b < a + 1 ∧ ∃ c, c < D.length ∧ ∃ e, e < c + 1 ∧ (bitI l a = 1 ∧ bitI l b = 1 ∧ bitI l c = 0 ∧ bitI l e = 0) ∧ x = gap4 D a b c e) _ _
    (fun a ha x hx => by obtain ⟨b, hb, c, hc, e, he, _, rfl⟩ := hx; exact (gap4_bd hf ha (by omega) hc (by omega)).1) (fun a ha s hs => ?_) (by decide)).congr fun x => Iff.rfl
  unfold sis3
  refine (itR_leastNo (S := fun b x => ∃ c, c < D.length ∧ ∃ e, e < c + 1 ∧ (bitI l a = 1 ∧ bitI l b = 1 ∧ bitI l c = 0 ∧ bitI l e = 0) ∧ x = gap4 D a b c e) _ _
    (fun b hb x hx => by obtain ⟨c, hc, e, he, _, rfl⟩ := hx; exact (gap4_bd hf ha (by omega) hc (by omega)).1) (fun b hb s hs => ?_) hs).congr fun x => Iff.rfl
  by_cases q : bitI l a = 0 ∨ bitI l b = 0
  · rw [if_pos q]
    have hno : ∀ x, ¬ ∃ c, c < D.length ∧ ∃ e, e < c + 1 ∧ (bitI l a = 1 ∧ bitI l b = 1 ∧ bitI l c = 0 ∧ bitI l e = 0) ∧ x = gap4 D a b c e := fun x ⟨c, _, e, _, k, _⟩ => by
      rcases q with q | q
      · rw [q] at k; exact absurd k.1 (by decide)
      · rw [q] at k; exact absurd k.2.1 (by decide)
    exact ⟨fun _ => .inl ⟨rfl, hno⟩, fun _ => ⟨Int.le_refl _, fun x hx => absurd hx (hno x), .inl rfl⟩⟩
  · rw [if_neg q]
    unfold sis2
    refine (itR_leastNo (S := fun c x => ∃ e, e < c + 1 ∧ (bitI l a = 1 ∧ bitI l b = 1 ∧ bitI l c = 0 ∧ bitI l e = 0) ∧ x = gap4 D a b c e) _ _
      (fun c hc x hx => by obtain ⟨e, he, _, rfl⟩ := hx; exact (gap4_bd hf ha (by omega) hc (by omega)).1) (fun c hc s hs => ?_) hs).congr fun x => Iff.rfl
    unfold sis1
    refine (itR_leastNo (S := fun e x => (bitI l a = 1 ∧ bitI l b = 1 ∧ bitI l c = 0 ∧ bitI l e = 0) ∧ x = gap4 D a b c e) _ _
      (fun e he x hx => by rw [hx.2]; exact (gap4_bd hf ha (by omega) hc (by omega)).1) (fun e he s hs => ?_) hs).congr fun x => Iff.rfl
    have ha1 : bitI l a = 1 := (bitI_01 l a).resolve_left fun k => q (.inl k)
    have hb1 : bitI l b = 1 := (bitI_01 l b).resolve_left fun k => q (.inr k)
    by_cases q2 : bitI l c = 1 ∨ bitI l e = 1
    · rw [if_pos q2]
      have hno : ∀ x, ¬ ((bitI l a = 1 ∧ bitI l b = 1 ∧ bitI l c = 0 ∧ bitI l e = 0) ∧ x = gap4 D a b c e) := fun x ⟨k, _⟩ => by
        rcases q2 with q2 | q2
        · rw [q2] at k; exact absurd k.2.2.1 (by decide)
        · rw [q2] at k; exact absurd k.2.2.2 (by decide)
      exact ⟨fun _ => .inl ⟨rfl, hno⟩, fun _ => ⟨Int.le_refl _, fun x hx => absurd hx (hno x), .inl rfl⟩⟩
    · rw [if_neg q2]
      have hc0 : bitI l c = 0 := (bitI_01 l c).resolve_right fun k => q2 (.inl k)
      have he0 : bitI l e = 0 := (bitI_01 l e).resolve_right fun k => q2 (.inr k)
      have hg := gap4_bd hf ha (by omega : b < D.length) hc (by omega : e < D.length)
      unfold sisoStep
      refine ⟨fun ht => .inr ?_, fun ht => ?_⟩
      · rw [if_pos (.inl ht)]
        exact ⟨⟨⟨ha1, hb1, hc0, he0⟩, rfl⟩, fun x hx => by rw [hx.2]; exact Int.le_refl _⟩
      · by_cases q3 : s < 0 ∨ gap4 D a b c e < s
        · rw [if_pos q3]
          exact ⟨by omega, fun x hx => by rw [hx.2]; exact Int.le_refl _, .inr ⟨⟨ha1, hb1, hc0, he0⟩, rfl⟩⟩
        · rw [if_neg q3]
          exact ⟨Int.le_refl _, fun x hx => by rw [hx.2]; omega, .inl rfl⟩

theorem at2_sym {D : List (List Int)} (hf : farB D = true) {i k : Nat} (hi : i < D.length) (hk : k < D.length) : at2 D i k = at2 D k i := ((farB_parts hf).2.2 i hi k hk).2.2.1
theorem gap4_sw1 {D : List (List Int)} (hf : farB D = true) {a b c e : Nat} (ha : a < D.length) (hb : b < D.length) (_hc : c < D.length) (_he : e < D.length) : gap4 D a b c e = gap4 D b a c e := by
  show max (max (at2 D a b + at2 D c e) (at2 D a c + at2 D b e)) (at2 D a e + at2 D b c) - (at2 D a b + at2 D c e) = max (max (at2 D b a + at2 D c e) (at2 D b c + at2 D a e)) (at2 D b e + at2 D a c) - (at2 D b a + at2 D c e)
  rw [at2_sym hf hb ha]
  omega
theorem gap4_sw2 {D : List (List Int)} (hf : farB D = true) {a b c e : Nat} (_ha : a < D.length) (_hb : b < D.length) (hc : c < D.length) (he : e < D.length) : gap4 D a b c e = gap4 D a b e c := by
  show max (max (at2 D a b + at2 D c e) (at2 D a c + at2 D b e)) (at2 D a e + at2 D b c) - (at2 D a b + at2 D c e) = max (max (at2 D a b + at2 D e c) (at2 D a e + at2 D b c)) (at2 D a c + at2 D b e) - (at2 D a b + at2 D e c)
  rw [at2_sym hf he hc]
  omega
theorem SisoS_iff {D : List (List Int)} (hf : farB D = true) (l x : Int) : SisoS D l x ↔ IsoS D l x := by
  constructor
  · rintro ⟨a, ha, b, hb, c, hc, e, he, k, rfl⟩
    exact ⟨a, ha, b, by omega, c, hc, e, by omega, k, rfl⟩
  · rintro ⟨a, ha, b, hb, c, hc, e, he, k, rfl⟩
    obtain ⟨a', ha', b', hb', ka, kb, kg⟩ : ∃ a', a' < D.length ∧ ∃ b', b' < a' + 1 ∧ bitI l a' = 1 ∧ bitI l b' = 1 ∧ gap4 D a b c e = gap4 D a' b' c e := by
      by_cases q : b ≤ a
      · exact ⟨a, ha, b, by omega, k.1, k.2.1, rfl⟩
      · exact ⟨b, hb, a, by omega, k.2.1, k.1, gap4_sw1 hf ha hb hc he⟩
    rw [kg]
    by_cases q : e ≤ c
    · exact ⟨a', ha', b', hb', c, hc, e, by omega, ⟨ka, kb, k.2.2.1, k.2.2.2⟩, rfl⟩
    · exact ⟨a', ha', b', hb', e, he, c, by omega, ⟨ka, kb, k.2.2.2, k.2.2.1⟩, gap4_sw2 hf ha' (by omega) hc he⟩

/-- a lot has a point, and its other lot too -/
theorem lot_some {n : Nat} {l : Int} (h1 : 1 ≤ l) (h2 : l < 2 ^ n) : ∃ k, k < n ∧ bitI l k = 1 := by
  induction n generalizing l with
  | zero => simp at h2; omega
  | succ n ih =>
    by_cases e : l % 2 = 1
    · exact ⟨0, by omega, by unfold bitI; simpa using e⟩
    · rw [Int.pow_succ] at h2
      obtain ⟨k, hk, hb⟩ := ih (l := l / 2) (by omega) (by omega)
      refine ⟨k + 1, by omega, ?_⟩
      unfold bitI at hb ⊢
      rw [Int.pow_succ, Int.mul_comm, ← Int.ediv_ediv_of_nonneg (by decide)]
      exact hb
theorem bit_last {n : Nat} {l : Int} (h0 : 0 ≤ l) (h2 : l < 2 ^ n) : bitI l n = 0 := by
  unfold bitI; rw [Int.ediv_eq_zero_of_lt h0 h2]; rfl
def isoV (D : List (List Int)) (l : Int) : Int := if splitB D l = true then isoI D l else -1
end Go.Proofs.YtnalcgcdohlfiaaGreatDoor
namespace Go.Proofs.YtnalcgcdohlfiaaGreatDoor
open Go.RowKit

def idxF (q : Int → Bool) (xs : List Int) : Nat → Nat → Int
  | 0, _ => -1
  | g + 1, i => if q (ix xs i) = true then (i : Int) else idxF q xs g (i + 1)
theorem idxF_all (q : Int → Bool) (xs : List Int) : ∀ g i, i + g = xs.length → (idxF q xs g i < 0 ↔ ∀ x ∈ xs.drop i, q x = false)
  | 0, i, h => by
    have : xs.drop i = [] := List.drop_eq_nil_of_le (by omega)
    simp [idxF, this]
  | g + 1, i, h => by
    have hi : i < xs.length := by omega
    rw [idxF, List.drop_eq_getElem_cons hi, ← ix_of hi]
    by_cases e : q (ix xs i) = true
    · rw [if_pos e]; simp [e]
    · rw [if_neg e, idxF_all q xs g (i + 1) (by omega)]
      simp [Bool.not_eq_true] at e
      simp [e]

def badB (D : List (List Int)) (x : Int) : Bool := !pointB D x
def ptsB (D : List (List Int)) (xs : List Int) : Bool := xs.all (pointB D)
theorem ptsB_idx (D : List (List Int)) (xs : List Int) : ptsB D xs = !decide (0 ≤ idxF (badB D) xs xs.length 0) := by
  have h := idxF_all (badB D) xs xs.length 0 (by omega)
  rw [List.drop_zero] at h
  unfold ptsB
  rw [Bool.eq_iff_iff]
  simp only [List.all_eq_true, Bool.not_eq_true', decide_eq_false_iff_not]
  rw [show (¬ 0 ≤ idxF (badB D) xs xs.length 0) ↔ idxF (badB D) xs xs.length 0 < 0 by omega, h]
  simp [badB]

end Go.Proofs.YtnalcgcdohlfiaaGreatDoor
namespace Go.Proofs.YtnalcgcdohlfiaaGreatDoor
open Go.RowKit

/-- the lots from 1 to N - 1 that isolate something -/
def splG (f : Nat → Int) : Nat → Nat → List (List Int) → List (List Int) := itR (fun k R => if 0 < f k then R ++ [[(k : Int), f k]] else R)
def splL (f : Nat → Int) (N : Nat) : List (List Int) := splG f (N - 1) 1 []
def splD (D : List (List Int)) : List (List Int) := splL (fun k => isoI D k) (2 ^ (D.length - 1))
def splV (D : List (List Int)) : List (List Int) := if spB D = true then splD D else []
theorem splG_yes {f : Nat → Int} {g k : Nat} {R : List (List Int)} (h : 0 < f k) : splG f (g + 1) k R = splG f g (k + 1) (R ++ [[(k : Int), f k]]) := by
  unfold splG; rw [itR, if_pos h]
theorem splG_no {f : Nat → Int} {g k : Nat} {R : List (List Int)} (h : ¬ 0 < f k) : splG f (g + 1) k R = splG f g (k + 1) R := by
  unfold splG; rw [itR, if_neg h]
theorem splL_spec (f : Nat → Int) (N : Nat) (hN : 1 ≤ N) : (splL f N).length ≤ N ∧ ∀ r ∈ splL f N, ∃ k : Nat, 1 ≤ k ∧ k < N ∧ r = [(k : Int), f k] ∧ 0 < f k := by
  have := itR_inv (f := fun k R => if 0 < f k then R ++ [[(k : Int), f k]] else R) (fun j (R : List (List Int)) => R.length + 1 ≤ j ∧ ∀ r ∈ R, ∃ k : Nat, 1 ≤ k ∧ k < j ∧ r = [(k : Int), f k] ∧ 0 < f k) (N - 1) 1 []
    ⟨Nat.le_refl _, fun r hr => absurd hr (by simp)⟩ (fun j R h1 _ h => by
      obtain ⟨a, b⟩ := h
      by_cases q : 0 < f j
      · simp only [if_pos q]
        refine ⟨by simp; omega, fun r hr => ?_⟩
        rcases List.mem_append.1 hr with hr | hr
        · obtain ⟨k, k1, k2, k3⟩ := b r hr
          exact ⟨k, k1, by omega, k3⟩
        · exact ⟨j, h1, by omega, by simpa using hr, q⟩
      · simp only [if_neg q]
        exact ⟨by omega, fun r hr => by obtain ⟨k, k1, k2, k3⟩ := b r hr; exact ⟨k, k1, by omega, k3⟩⟩)
  rw [show 1 + (N - 1) = N by omega] at this
  exact ⟨by have := this.1; unfold splL splG; omega, this.2⟩
theorem pow_bd {n : Nat} (h6 : n ≤ 6) : 1 ≤ 2 ^ (n - 1) ∧ 2 ^ (n - 1) ≤ 32 := by
  have h1 : 2 ^ (n - 1) ≤ 2 ^ 5 := Nat.pow_le_pow_right (by decide) (by omega)
  have h2 : 0 < 2 ^ (n - 1) := Nat.two_pow_pos _
  omega
theorem isoI_le (D : List (List Int)) (l : Int) : isoI D l ≤ 240 := (isoI_least D l).1
theorem isoI_ge {D : List (List Int)} (hf : farB D = true) (l : Int) : 0 ≤ isoI D l := by
  rcases (isoI_least D l).2.2 with h | ⟨a, ha, b, hb, c, hc, e, he, _, h⟩
  · omega
  · have := (gap4_bd hf ha hb hc he).1; omega
/-- each row is a lot and what it isolates -/
theorem splD_rows {D : List (List Int)} (hs : spB D = true) : (splD D).length ≤ 32 ∧ ∀ i, i < (splD D).length → (row (splD D) i).length = 2 ∧ 1 ≤ at2 (splD D) i 0 ∧ at2 (splD D) i 0 ≤ 31 ∧ 1 ≤ at2 (splD D) i 1 ∧ at2 (splD D) i 1 ≤ 240 := by
  obtain ⟨b1, b2⟩ := pow_bd (spB_len hs).2
  obtain ⟨a, b⟩ := splL_spec (fun k => isoI D k) (2 ^ (D.length - 1)) b1
  refine ⟨by unfold splD; omega, fun i hi => ?_⟩
  have hm : row (splD D) i ∈ splD D := by rw [row_of hi]; exact List.getElem_mem hi
  obtain ⟨k, k1, k2, k3, k4⟩ := b _ hm
  unfold at2
  rw [k3]
  have := isoI_le D k
  refine ⟨rfl, ?_, ?_, ?_, ?_⟩
  · show (1 : Int) ≤ k; omega
  · show (k : Int) ≤ 31; omega
  · show 1 ≤ isoI D k; omega
  · show isoI D k ≤ 240; omega

def ColR (f : Nat → Int) (w0 W : World) (v : Value) (g k : Nat) (T : List (List Int)) : Prop := ∃ R V, AccM w0 W v R V ∧ R.length ≤ k ∧ splG f g k R = T
theorem ColR.x {f : Nat → Int} {w0 W : World} {v : Value} {g k : Nat} {T : List (List Int)} (h : ColR f w0 W v g k T) : Ext w0 W := h.elim fun _ h => h.elim fun _ h => h.1.x
theorem ColR.on {f : Nat → Int} {w0 W W' : World} {v : Value} {g k : Nat} {T : List (List Int)} (h : ColR f w0 W v g k T) (hx : Ext W W') : ColR f w0 W' v g k T := by
  obtain ⟨R, V, h1, h2, h3⟩ := h
  exact ⟨R, V, h1.on hx, h2, h3⟩
theorem ColR.skip {f : Nat → Int} {w0 W : World} {v : Value} {g k : Nat} {T : List (List Int)} (h : ColR f w0 W v (g + 1) k T) (hp : ¬ 0 < f k) : ColR f w0 W v g (k + 1) T := by
  obtain ⟨R, V, h1, h2, h3⟩ := h
  exact ⟨R, V, h1, by omega, by rw [← splG_no hp]; exact h3⟩
theorem ColR.done {f : Nat → Int} {w0 W : World} {v : Value} {k : Nat} {T : List (List Int)} (h : ColR f w0 W v 0 k T) : FreshM w0 T (.returned v) W := by
  obtain ⟨R, V, h1, h2, h3⟩ := h
  have e : R = T := h3
  subst e
  exact h1.done
theorem ColR.push {P : Program} {ops : Array Oper} {rest : List Oper} {o : Oper} {a : Act} {Q : Exit → Act → World → Prop} {w0 W : World} {T E : TypeId} {f : Nat → Int} {g k : Nat} {S : List (List Int)} {y : Int} (hE : E = 47)
    (ht : P.underlying T = some (.slice E)) (hinfo : (P.info? E).map (fun i => (i.zero, i.size, i.bytes)) = some (some (.slice none 0 0), 1, 24))
    (hgd : o.guard = none) (s x : Operand) (ho : o.op = .call { callee := .builtin .append, args := #[s, x], argTypes := #[T, T] })
    (v : Value) (hs : a.eval s = v) (hx : a.eval x = .slice (some ⟨W.heap.size + 1, 0, none⟩) 1 1) (h : ColR f w0 W v (g + 1) k S) (hp : 0 < f k) (hy : y = f k) (hk : k ≤ 10000000)
    (hn : ∀ v' w', ColR f w0 w' v' g (k + 1) S → wpList P ops Q rest (a.put o.dst v') w') :
    wpList P ops Q (o :: rest) a ((W.alloc (.cells #[.int .i64 k, .int .i64 y] 3)).alloc (.cells #[.slice (some ⟨W.heap.size, 0, none⟩) 2 2] E)) := by
  subst hy
  obtain ⟨R, V, h1, h2, h3⟩ := h
  have hlt : ∀ i, i < R.length → ∀ g ∈ lb (V i), g < W.heap.size := fun i hi g hg => (h1.2.1 i hi).lt hg
  have hx0 := h1.x.size
  refine wp_appM hE ht hinfo hgd s x ho v (.slice (some ⟨W.heap.size, 0, none⟩) 2 2) R [(k : Int), f k] V hs (by rw [hx]; simp) rfl (h1.on (Ext.alloc _ _)) (leaf_two W _ _) (fun g hg => ?_) (by omega)
    fun v' w' ha => hn v' w' ⟨_, _, ha, by simp; omega, by rw [← splG_yes hp]; exact h3⟩
  simp [lb] at hg
  subst hg
  exact ⟨hx0, fun i hi hg => by have := hlt i hi _ hg; omega⟩

set_option maxRecDepth 100000 in
set_option maxHeartbeats 4000000 in
theorem splitsOf_any (A : Option Addr) (cp : Nat) (D : List (List Int)) (w : World) (h : Mat w A cp D) (hs : spB D = true) :
    Calls Tryz.prog 71 #[.slice A D.length cp] w (FreshM w (splD D)) := by
  have HM := Lib.hid h
  obtain ⟨n1, n6⟩ := spB_len hs
  obtain ⟨N, hN⟩ : ∃ N : Nat, 2 ^ (D.length - 1) = N := ⟨_, rfl⟩
  have hw : wrap64 (2 ^ (D.length - 1)) = ((N : Nat) : Int) := by rw [wrap_pow (by omega), ← hN]; simp
  obtain ⟨N1, N2⟩ : 1 ≤ N ∧ N ≤ 32 := by rw [← hN]; exact pow_bd n6
  have HT := Lib.hid (show splD D = splL (fun k => isoI D k) N by unfold splD; rw [hN])
  have HC := Lib.hid (fun (k : Nat) W (hk : k ≤ 32) (q : Mat W A cp D) => isolatedBy_any A cp D k W q (spB_far hs) (by omega) (by omega))
  have HG := Lib.hid (fun k : Nat => isoI_le D k)
  have n1' : (0 : Int) ≤ (D.length : Int) - 1 := by omega
  clear hN h
  go_enter Tryz.func71, Tryz.ntmps71
  go_wp2
  go_loopg [3, 4] (N - 1) (fun g s3 s4 wr => ∃ (k : Nat), k + g = N ∧ 1 ≤ k ∧ s4 = .int .i64 k ∧ ColR (fun k => isoI D k) w wr s3 g k (splL (fun k => isoI D k) N))
  case atStart => exact ⟨1, by omega, Nat.le_refl _, rfl, [], fun _ => .slice none 0 0, AccM.empty (Ext.refl _) _, by simp, rfl⟩
  case round =>
    obtain ⟨k, hi, hk1, rfl, hcol⟩ := hrel
    by_cases hin : k < N
    · obtain ⟨g', rfl⟩ : ∃ g', gk = g' + 1 := ⟨gk - 1, by omega⟩
      have hin' : (k : Int) < (N : Nat) := by omega
      have hx := hcol.x
      by_cases e : 0 < isoI D k
      · have HE := Lib.hid e
        go_wp2_with fail
        refine (HC.out k _ (by omega) (HM.out.ext hx)).mono ?_
        rintro e w1 ⟨rfl, hx1⟩
        have hcol2 := hcol.on hx1
        go_wp2_with (at_builtin; refine ColR.push (y := isoI D k) rfl Tryz.underlying23 infoR rfl (.tmp 20) (.tmp 24) rfl _ rfl rfl hcol2 HE.out rfl (by omega) ?_; intro v' w' hcol')
        go_roundg g'
        case measure => omega
        case rel => exact ⟨k + 1, by omega, by omega, by go_num, hcol'⟩
      · have HE := Lib.hid e
        go_wp2_with fail
        refine (HC.out k _ (by omega) (HM.out.ext hx)).mono ?_
        rintro e w1 ⟨rfl, hx1⟩
        have hcol2 := hcol.on hx1
        go_wp2
        go_roundg g'
        case measure => omega
        case rel => exact ⟨k + 1, by omega, by omega, by go_num, hcol2.skip (by have := HE.out; omega)⟩
    · have hin' : ¬ (k : Int) < (N : Nat) := by omega
      obtain rfl : gk = 0 := by omega
      go_wp2
      go_ret
      rw [HT.out]
      exact hcol.done
end Go.Proofs.YtnalcgcdohlfiaaGreatDoor
namespace Go.Proofs.YtnalcgcdohlfiaaGreatDoor
open Go.RowKit

theorem pow_nat {D : List (List Int)} : ((2 : Int) ^ (D.length - 1)) = ((2 ^ (D.length - 1) : Nat) : Int) := by simp
theorem splitB_mk {D : List (List Int)} {k : Nat} (hs : spB D = true) (h2 : 2 ≤ D.length) (k1 : 1 ≤ k) (k2 : k < 2 ^ (D.length - 1)) : splitB D k = true := by
  unfold splitB
  rw [hs, pow_nat]
  simp only [Bool.true_and, decide_eq_true_eq]
  exact ⟨h2, by omega, by exact_mod_cast k2⟩
/-- no lot at all -/
theorem splV_nil {D : List (List Int)} (h : splitB D 1 = false) : splV D = [] := by
  unfold splV
  by_cases hs : spB D = true
  · rw [if_pos hs]
    have n1 := (spB_len hs).1
    by_cases h2 : 2 ≤ D.length
    · have := splitB_mk hs h2 (Nat.le_refl 1) (Nat.one_lt_two_pow (by omega))
      rw [show ((1 : Nat) : Int) = 1 from rfl] at this
      rw [this] at h; cases h
    · have e : D.length = 1 := by omega
      unfold splD splL splG
      rw [e]
      rfl
  · rw [if_neg hs]
end Go.Proofs.YtnalcgcdohlfiaaGreatDoor
