/- What is proved: MedianSpace of both answer alike. No condition but the rows' size. -/
import Derived.Test.YtjaigidlpfdfiaaMid3
import Derived.Test.YtjaigidlpfdfiaaMeds
import Derived.Test.YtjaigidlpfdfiaaIsoP
namespace Go.Proofs.Ytjaigidlpfdfiaa
open Go.RowKit

def oneM (D : List (List Int)) (a b c : Nat) : Prop := (midsL D a b c).length = 1
def AllOne (D : List (List Int)) : Prop := ∀ a, a < D.length → ∀ b, b < D.length → ∀ c, c < D.length → oneM D a b c
noncomputable def mspV (D : List (List Int)) : Bool := open Classical in spB D && decide (AllOne D)
theorem mspV_yes {D : List (List Int)} (hs : spB D = true) (h : AllOne D) : mspV D = true := by
  classical
  unfold mspV; rw [hs, decide_eq_true h]; rfl
theorem mspV_no {D : List (List Int)} (h : ¬ AllOne D) : mspV D = false := by
  classical
  unfold mspV; rw [decide_eq_false h, Bool.and_false]
theorem mspV_sp {D : List (List Int)} (hs : spB D = false) : mspV D = false := by
  unfold mspV; rw [hs]; rfl
theorem selN_one (a : Nat) : ∀ n : Nat, selN (fun x => decide (x = a)) n = if a < n then [(a : Int)] else []
  | 0 => by rw [if_neg (by omega)]; rfl
  | n + 1 => by
    rw [selN_succ, selN_one a n]
    by_cases h : a < n
    · have h1 : ¬ (decide (n = a) = true) := by simp; omega
      rw [if_pos h, if_pos (show a < n + 1 by omega), if_neg h1, List.append_nil]
    · rw [if_neg h]
      by_cases e : n = a
      · rw [if_pos (show a < n + 1 by omega), if_pos (decide_eq_true e), e]; rfl
      · rw [if_neg (show ¬ a < n + 1 by omega), if_neg (show ¬ (decide (n = a) = true) by simpa using e)]; rfl
theorem btw_sym {D : List (List Int)} (hf : farB D = true) {a b x : Nat} (ha : a < D.length) (hb : b < D.length) (hx : x < D.length) : btwB D a b x = btwB D b a x := by
  unfold btwB
  rw [at2_sym hf ha hx, at2_sym hf hx hb, at2_sym hf ha hb, Int.add_comm]
theorem mids_sw1 {D : List (List Int)} (hf : farB D = true) {a b c : Nat} (ha : a < D.length) (hb : b < D.length) : midsL D a b c = midsL D b a c := by
  unfold midsL
  refine selN_congr fun x hx => ?_
  unfold midB
  rw [btw_sym hf ha hb hx, Bool.and_comm (btwB D a c x)]
theorem mids_sw2 {D : List (List Int)} (hf : farB D = true) {a b c : Nat} (hb : b < D.length) (hc : c < D.length) : midsL D a b c = midsL D a c b := by
  unfold midsL
  refine selN_congr fun x hx => ?_
  unfold midB
  rw [btw_sym hf hb hc hx, ← Bool.and_assoc, ← Bool.and_assoc, Bool.and_comm (btwB D a b x)]
theorem mids_deg {D : List (List Int)} (hf : farB D = true) {a c : Nat} (ha : a < D.length) : oneM D a a c := by
  have hc := (farB_parts hf).2.2
  have e : midsL D a a c = selN (fun x => decide (x = a)) D.length := by
    unfold midsL
    refine selN_congr fun x hx => ?_
    obtain ⟨p0, -, p1, p2⟩ := hc a ha x hx
    have q := (hc a ha a ha).2.2.2.2 rfl
    unfold midB btwB
    by_cases e : x = a
    · subst e
      rw [q]
      simp
    · have h1 : ¬ (at2 D a x + at2 D x a = at2 D a a) := by
        intro k
        have : at2 D a x = 0 := by omega
        exact e (p2.1 this).symm
      rw [decide_eq_false h1, decide_eq_false e, Bool.false_and]
  unfold oneM
  rw [e, selN_one, if_pos ha]
  rfl
theorem oneM_half {D : List (List Int)} (hs : spB D = true) (h : ∀ a, a < D.length → ∀ b, b < a → ∀ c, c < b → oneM D a b c) : AllOne D := by
  have hf := spB_far hs
  have s1 : ∀ {a b c}, a < D.length → b < D.length → oneM D b a c → oneM D a b c := fun ha hb k => by unfold oneM at *; rw [mids_sw1 hf ha hb]; exact k
  have s2 : ∀ {a b c}, b < D.length → c < D.length → oneM D a c b → oneM D a b c := fun hb hc k => by unfold oneM at *; rw [mids_sw2 hf hb hc]; exact k
  have d1 : ∀ {a b c}, a < D.length → b < D.length → a = b → oneM D a b c := fun ha _ e => by subst e; exact mids_deg hf ha
  have two : ∀ {a b c}, a < D.length → b < D.length → c < D.length → b < a → oneM D a b c := fun {a b c} ha hb hc k => by
    rcases Nat.lt_trichotomy c b with q | q | q
    · exact h a ha b k c q
    · exact s1 ha hb (s2 ha hc (d1 hb hc q.symm))
    · rcases Nat.lt_trichotomy c a with r | r | r
      · exact s2 hb hc (h a ha c r b q)
      · exact s2 hb hc (d1 ha hc r.symm)
      · exact s2 hb hc (s1 ha hc (h c hc a r b k))
  intro a ha b hb c hc
  rcases Nat.lt_trichotomy b a with q | q | q
  · exact two ha hb hc q
  · exact d1 ha hb q.symm
  · exact s1 ha hb (two hb ha hc q)

set_option maxRecDepth 100000 in
set_option maxHeartbeats 4000000 in
theorem iMedianSpace_any (A : Option Addr) (cp : Nat) (D : List (List Int)) (w : World) (h : Mat w A cp D) :
    Calls Try.prog 32 #[.slice A D.length cp] w fun e w' => e = .returned (.bool (mspV D)) ∧ Ext w w' := by
  have HS := Lib.hid (isSpace_any A cp D w h)
  have HM := Lib.hid h
  cases e : spB D with
  | false =>
    have HF := Lib.hid (mspV_sp e)
    rw [e] at HS
    clear e
    go_enter Try.func32, Try.ntmps32
    go_wp2_with fail
    refine (HS.out).mono ?_
    rintro e w1 ⟨rfl, m1, rfl⟩
    go_wp2
    go_ret
    exact ⟨ret_bool HF.out.symm, (by repeat (first | exact Ext.refl _ | assumption | apply Ext.drewN' | apply Ext.alloc' | refine Ext.trans ?_ (by assumption)))⟩
  | true =>
    have hn6 := (spB_len e).2
    have HC := Lib.hid (fun (a b c : Nat) (ha : a < D.length) (hb : b < D.length) (hc : c < D.length) W (k : Mat W A cp D) => middlesOf_any A cp D a b c W k e ha hb hc)
    have HY := Lib.hid (fun q => mspV_yes e q)
    rw [e] at HS
    clear e h
    go_enter Try.func32, Try.ntmps32
    go_wp2_with fail
    refine (HS.out).mono ?_
    rintro e w1 ⟨rfl, m1, rfl⟩
    go_wp2
    go_loopg [11] (D.length) (fun g s11 wr => ∃ (a : Nat), a + g = D.length ∧ s11 = .int .i64 a ∧ Ext w wr ∧ Hid (∀ x, x < a → ∀ y, y < D.length → ∀ z, z < D.length → oneM D x y z))
    case atStart => exact ⟨0, by omega, rfl, by repeat (first | exact Ext.refl _ | assumption | apply Ext.drewN' | apply Ext.alloc' | refine Ext.trans ?_ (by assumption)), Lib.hid (fun x hx => absurd hx (by omega))⟩
    case round =>
      obtain ⟨a, ha, rfl, hxa, Ha⟩ := hrel
      by_cases hina : a < D.length
      · obtain ⟨ga, rfl⟩ : ∃ g', gk = g' + 1 := ⟨gk - 1, by omega⟩
        have hina' : (a : Int) < (D.length : Nat) := by omega
        go_wp2
        go_loopg [16] (D.length) (fun g s16 wr => ∃ (b : Nat), b + g = D.length ∧ s16 = .int .i64 b ∧ Ext w wr ∧ Hid (∀ y, y < b → ∀ z, z < D.length → oneM D a y z))
        case atStart => exact ⟨0, by omega, rfl, by repeat (first | exact Ext.refl _ | assumption | apply Ext.drewN' | apply Ext.alloc' | refine Ext.trans ?_ (by assumption)), Lib.hid (fun x hx => absurd hx (by omega))⟩
        case round =>
          obtain ⟨b, hb, rfl, hxb, Hb⟩ := hrel
          by_cases hinb : b < D.length
          · obtain ⟨gb, rfl⟩ : ∃ g', gk = g' + 1 := ⟨gk - 1, by omega⟩
            have hinb' : (b : Int) < (D.length : Nat) := by omega
            go_wp2
            go_loopg [21] (D.length) (fun g s21 wr => ∃ (c : Nat), c + g = D.length ∧ s21 = .int .i64 c ∧ Ext w wr ∧ Hid (∀ z, z < c → oneM D a b z))
            case atStart => exact ⟨0, by omega, rfl, by repeat (first | exact Ext.refl _ | assumption | apply Ext.drewN' | apply Ext.alloc' | refine Ext.trans ?_ (by assumption)), Lib.hid (fun x hx => absurd hx (by omega))⟩
            case round =>
              obtain ⟨c, hc, rfl, hxc, Hc⟩ := hrel
              by_cases hinc : c < D.length
              · obtain ⟨gc, rfl⟩ : ∃ g', gk = g' + 1 := ⟨gk - 1, by omega⟩
                have hinc' : (c : Int) < (D.length : Nat) := by omega
                have HK := Lib.hid (HC.out a b c hina hinb hinc)
                go_wp2_with fail
                refine (HK.out _ (HM.out.ext (by repeat (first | exact Ext.refl _ | assumption | apply Ext.drewN' | apply Ext.alloc' | refine Ext.trans ?_ (by assumption))))).mono ?_
                rintro e w2 ⟨v2, rfl, hl, -, hx2⟩
                obtain ⟨A2, c2, rfl, -⟩ := hl.ints
                clear hl HK
                by_cases q : (midsL D a b c).length = 1
                · have HQ := Lib.hid (show oneM D a b c from q)
                  rw [q]
                  clear q
                  go_wp2
                  go_roundg gc
                  case measure => omega
                  case rel => exact ⟨c + 1, by omega, by go_num, by repeat (first | exact Ext.refl _ | assumption | apply Ext.drewN' | apply Ext.alloc' | refine Ext.trans ?_ (by assumption)), Lib.hid (by exact fun y hy => if e : y = c then e ▸ HQ.out else Hc.out y (by omega))⟩
                · have HN := Lib.hid (mspV_no (D := D) fun k => q (k a hina b hinb c hinc))
                  obtain ⟨v, hv⟩ : ∃ v, (midsL D a b c).length = v := ⟨_, rfl⟩
                  rw [hv] at q ⊢
                  have hne : decide ((v : Int) = 1) = false := decide_eq_false (by omega)
                  clear hv
                  go_wp2
                  go_ret
                  exact ⟨ret_bool HN.out.symm, (by repeat (first | exact Ext.refl _ | assumption | apply Ext.drewN' | apply Ext.alloc' | refine Ext.trans ?_ (by assumption)))⟩
              · have hinc' : ¬ (c : Int) < (D.length : Nat) := by omega
                obtain rfl : gk = 0 := by omega
                have HT := Lib.hid (show ∀ z, z < D.length → oneM D a b z from fun y hy => Hc.out y (by omega))
                clear Hc
                go_wp2
                go_roundg gb
                case measure => omega
                case rel => exact ⟨b + 1, by omega, by go_num, by repeat (first | exact Ext.refl _ | assumption | apply Ext.drewN' | apply Ext.alloc' | refine Ext.trans ?_ (by assumption)), Lib.hid (by exact fun x hx => if e : x = b then e ▸ HT.out else Hb.out x (by omega))⟩
          · have hinb' : ¬ (b : Int) < (D.length : Nat) := by omega
            obtain rfl : gk = 0 := by omega
            have HT := Lib.hid (show ∀ y, y < D.length → ∀ z, z < D.length → oneM D a y z from fun y hy => Hb.out y (by omega))
            clear Hb
            go_wp2
            go_roundg ga
            case measure => omega
            case rel => exact ⟨a + 1, by omega, by go_num, by repeat (first | exact Ext.refl _ | assumption | apply Ext.drewN' | apply Ext.alloc' | refine Ext.trans ?_ (by assumption)), Lib.hid (by exact fun x hx => if e : x = a then e ▸ HT.out else Ha.out x (by omega))⟩
      · have hina' : ¬ (a : Int) < (D.length : Nat) := by omega
        obtain rfl : gk = 0 := by omega
        have HT := Lib.hid (HY.out (fun x hx => Ha.out x (by omega)))
        go_wp2
        go_ret
        exact ⟨ret_bool HT.out.symm, (by repeat (first | exact Ext.refl _ | assumption | apply Ext.drewN' | apply Ext.alloc' | refine Ext.trans ?_ (by assumption)))⟩

theorem midsV_in {D : List (List Int)} (hs : spB D = true) {a b c : Nat} (ha : a < D.length) (hb : b < D.length) (hc : c < D.length) : midsV D a b c = midsL D a b c := by
  have p : ∀ {x : Nat}, x < D.length → pointB D x = true := fun {x} hx => by unfold pointB; rw [hs, Bool.true_and]; exact decide_eq_true (by omega)
  unfold midsV
  rw [if_pos (by unfold ptsB; simp only [List.all_cons, List.all_nil, p ha, p hb, p hc]; rfl)]
  rfl

set_option maxRecDepth 100000 in
set_option maxHeartbeats 4000000 in
theorem sMedianSpace_any (A : Option Addr) (cp : Nat) (D : List (List Int)) (w : World) (h : Mat w A cp D) :
    Calls Try.prog 33 #[.slice A D.length cp] w fun e w' => e = .returned (.bool (mspV D)) ∧ Ext w w' := by
  have HS := Lib.hid (SpaceOk_any A cp D w h)
  have HM := Lib.hid h
  cases e : spB D with
  | false =>
    have HF := Lib.hid (mspV_sp e)
    rw [e] at HS
    clear e
    go_enter Try.func33, Try.ntmps33
    go_wp2_with fail
    refine (HS.out).mono ?_
    rintro e w1 ⟨rfl, m1, rfl⟩
    go_wp2
    go_ret
    exact ⟨ret_bool HF.out.symm, (by repeat (first | exact Ext.refl _ | assumption | apply Ext.drewN' | apply Ext.alloc' | refine Ext.trans ?_ (by assumption)))⟩
  | true =>
    have hn6 := (spB_len e).2
    have HC := Lib.hid (fun (a b c : Nat) (ha : a < D.length) (hb : b < D.length) (hc : c < D.length) W (k : Mat W A cp D) => midsV_in e ha hb hc ▸ sMiddles_any A cp D a b c W k (by omega))
    have HY := Lib.hid (fun q => mspV_yes e (oneM_half e q))
    rw [e] at HS
    clear e h
    go_enter Try.func33, Try.ntmps33
    go_wp2_with fail
    refine (HS.out).mono ?_
    rintro e w1 ⟨rfl, m1, rfl⟩
    go_wp2
    go_loopg [3] (D.length) (fun g s3 wr => ∃ (a : Nat), a + g = D.length ∧ s3 = .int .i64 a ∧ Ext w wr ∧ Hid (∀ x, x < a → ∀ y, y < x → ∀ z, z < y → oneM D x y z))
    case atStart => exact ⟨0, by omega, rfl, by repeat (first | exact Ext.refl _ | assumption | apply Ext.drewN' | apply Ext.alloc' | refine Ext.trans ?_ (by assumption)), Lib.hid (fun x hx => absurd hx (by omega))⟩
    case round =>
      obtain ⟨a, ha, rfl, hxa, Ha⟩ := hrel
      by_cases hina : a < D.length
      · obtain ⟨ga, rfl⟩ : ∃ g', gk = g' + 1 := ⟨gk - 1, by omega⟩
        have hina' : (a : Int) < (D.length : Nat) := by omega
        go_wp2
        go_loopg [4] (a) (fun g s4 wr => ∃ (b : Nat), b + g = a ∧ s4 = .int .i64 b ∧ Ext w wr ∧ Hid (∀ y, y < b → ∀ z, z < y → oneM D a y z))
        case atStart => exact ⟨0, by omega, rfl, by repeat (first | exact Ext.refl _ | assumption | apply Ext.drewN' | apply Ext.alloc' | refine Ext.trans ?_ (by assumption)), Lib.hid (fun x hx => absurd hx (by omega))⟩
        case round =>
          obtain ⟨b, hb, rfl, hxb, Hb⟩ := hrel
          by_cases hinb : b < a
          · obtain ⟨gb, rfl⟩ : ∃ g', gk = g' + 1 := ⟨gk - 1, by omega⟩
            have hinb' : (b : Int) < (a : Nat) := by omega
            go_wp2
            go_loopg [5] (b) (fun g s5 wr => ∃ (c : Nat), c + g = b ∧ s5 = .int .i64 c ∧ Ext w wr ∧ Hid (∀ z, z < c → oneM D a b z))
            case atStart => exact ⟨0, by omega, rfl, by repeat (first | exact Ext.refl _ | assumption | apply Ext.drewN' | apply Ext.alloc' | refine Ext.trans ?_ (by assumption)), Lib.hid (fun x hx => absurd hx (by omega))⟩
            case round =>
              obtain ⟨c, hc, rfl, hxc, Hc⟩ := hrel
              by_cases hinc : c < b
              · obtain ⟨gc, rfl⟩ : ∃ g', gk = g' + 1 := ⟨gk - 1, by omega⟩
                have hinc' : (c : Int) < (b : Nat) := by omega
                have hbn : b < D.length := by omega
                have hcn : c < D.length := by omega
                have HK := Lib.hid (HC.out a b c hina hbn hcn)
                go_wp2_with fail
                refine (HK.out _ (HM.out.ext (by repeat (first | exact Ext.refl _ | assumption | apply Ext.drewN' | apply Ext.alloc' | refine Ext.trans ?_ (by assumption))))).mono ?_
                rintro e w2 ⟨v2, rfl, hl, -, hx2⟩
                obtain ⟨A2, c2, rfl, -⟩ := hl.ints
                clear hl HK
                by_cases q : (midsL D a b c).length = 1
                · have HQ := Lib.hid (show oneM D a b c from q)
                  rw [q]
                  clear q
                  go_wp2
                  go_roundg gc
                  case measure => omega
                  case rel => exact ⟨c + 1, by omega, by go_num, by repeat (first | exact Ext.refl _ | assumption | apply Ext.drewN' | apply Ext.alloc' | refine Ext.trans ?_ (by assumption)), Lib.hid (by exact fun y hy => if e : y = c then e ▸ HQ.out else Hc.out y (by omega))⟩
                · have HN := Lib.hid (mspV_no (D := D) fun k => q (k a hina b hbn c hcn))
                  obtain ⟨v, hv⟩ : ∃ v, (midsL D a b c).length = v := ⟨_, rfl⟩
                  rw [hv] at q ⊢
                  have hne : decide ((v : Int) = 1) = false := decide_eq_false (by omega)
                  clear hv
                  go_wp2
                  go_ret
                  exact ⟨ret_bool HN.out.symm, (by repeat (first | exact Ext.refl _ | assumption | apply Ext.drewN' | apply Ext.alloc' | refine Ext.trans ?_ (by assumption)))⟩
              · have hinc' : ¬ (c : Int) < (b : Nat) := by omega
                obtain rfl : gk = 0 := by omega
                have HT := Lib.hid (show ∀ z, z < b → oneM D a b z from fun y hy => Hc.out y (by omega))
                clear Hc
                go_wp2
                go_roundg gb
                case measure => omega
                case rel => exact ⟨b + 1, by omega, by go_num, by repeat (first | exact Ext.refl _ | assumption | apply Ext.drewN' | apply Ext.alloc' | refine Ext.trans ?_ (by assumption)), Lib.hid (by exact fun x hx => if e : x = b then e ▸ HT.out else Hb.out x (by omega))⟩
          · have hinb' : ¬ (b : Int) < (a : Nat) := by omega
            obtain rfl : gk = 0 := by omega
            have HT := Lib.hid (show ∀ y, y < a → ∀ z, z < y → oneM D a y z from fun y hy => Hb.out y (by omega))
            clear Hb
            go_wp2
            go_roundg ga
            case measure => omega
            case rel => exact ⟨a + 1, by omega, by go_num, by repeat (first | exact Ext.refl _ | assumption | apply Ext.drewN' | apply Ext.alloc' | refine Ext.trans ?_ (by assumption)), Lib.hid (by exact fun x hx => if e : x = a then e ▸ HT.out else Ha.out x (by omega))⟩
      · have hina' : ¬ (a : Int) < (D.length : Nat) := by omega
        obtain rfl : gk = 0 := by omega
        have HT := Lib.hid (HY.out (fun x hx => Ha.out x (by omega)))
        go_wp2
        go_ret
        exact ⟨ret_bool HT.out.symm, (by repeat (first | exact Ext.refl _ | assumption | apply Ext.drewN' | apply Ext.alloc' | refine Ext.trans ?_ (by assumption)))⟩
end Go.Proofs.Ytjaigidlpfdfiaa
