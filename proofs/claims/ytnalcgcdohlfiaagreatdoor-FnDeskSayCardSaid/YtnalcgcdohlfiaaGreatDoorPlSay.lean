/- What is proved: plain laws of lines said one after the other: in two parts they are the same; no answer is empty; behind "below" the gap is 0 and a point lies at 0 from itself. Conditions: those of each theorem. -/
import Derived.Test.YtnalcgcdohlfiaaGreatDoorSay
import Derived.Test.YtnalcgcdohlfiaaGreatDoorPe
import Derived.Test.YtnalcgcdohlfiaaGreatDoorPh
namespace Go.Proofs.YtnalcgcdohlfiaaGreatDoor
open Go.RowKit
theorem sayL_app : ∀ (a b : List (List UInt8)) (D : List (List Int)) (L : List (List (List Int))), sayL (a ++ b) D L = ((sayL b (sayL a D L).1 (sayL a D L).2.1).1, (sayL b (sayL a D L).1 (sayL a D L).2.1).2.1, (sayL a D L).2.2 ++ (sayL b (sayL a D L).1 (sayL a D L).2.1).2.2)
  | [], _, _, _ => rfl
  | T :: r, b, D, L => by
    have ih := sayL_app r b (lineD D L T) (lineL D L T)
    show ((sayL (r ++ b) (lineD D L T) (lineL D L T)).1, (sayL (r ++ b) (lineD D L T) (lineL D L T)).2.1, sayT D L T :: (sayL (r ++ b) (lineD D L T) (lineL D L T)).2.2) = _
    rw [ih]
    rfl
theorem say_halves {D : List (List Int)} {L : List (List (List Int))} {ts : List (List UInt8)} {h : Nat} (hd : deskB D L = true) (hl : ts.length ≤ 40) :
    (sayV (sayV D L (ts.take h)).1 (sayV D L (ts.take h)).2.1 (ts.drop h)).1 = (sayV D L ts).1 ∧ (sayV (sayV D L (ts.take h)).1 (sayV D L (ts.take h)).2.1 (ts.drop h)).2.1 = (sayV D L ts).2.1 ∧
      (sayV D L (ts.take h)).2.2 ++ (sayV (sayV D L (ts.take h)).1 (sayV D L (ts.take h)).2.1 (ts.drop h)).2.2 = (sayV D L ts).2.2 := by
  have l1 : (ts.take h).length ≤ 40 := by rw [List.length_take]; omega
  have l2 : (ts.drop h).length ≤ 40 := by rw [List.length_drop]; omega
  have e1 : sayV D L (ts.take h) = sayL (ts.take h) D L := if_pos ⟨hd, l1⟩
  have e2 : sayV D L ts = sayL ts D L := if_pos ⟨hd, hl⟩
  have e3 : sayV (sayL (ts.take h) D L).1 (sayL (ts.take h) D L).2.1 (ts.drop h) = sayL (ts.drop h) (sayL (ts.take h) D L).1 (sayL (ts.take h) D L).2.1 := if_pos ⟨sayL_desk _ hd, l2⟩
  rw [e1, e2, e3]
  have key := sayL_app (ts.take h) (ts.drop h) D L
  rw [List.take_append_drop] at key
  rw [key]
  exact ⟨rfl, rfl, rfl⟩
theorem dg_ne (x : Int) : dg x ≠ [] := by
  unfold dg
  rw [Lib.decDigits]
  split
  · simp
  · simp
theorem orN_ne (T : List UInt8) : orN T ≠ [] := by
  unfold orN
  split
  · decide
  · assumption
theorem twoI_ne {D : List (List Int)} (hs : spB D = true) (T : List UInt8) : twoI D T ≠ [] := by
  unfold twoI
  split
  · cases h : pairI D (cutR 32 T) with
    | none => show askNone ≠ []; decide
    | some q =>
      show (if cutP 32 T = askFar then dg (at2 D q.1 q.2) else rowT (selN (btwB D q.1 q.2) D.length)) ≠ []
      split
      · exact dg_ne _
      · refine rowT_ne (btw_ne hs ?_)
        unfold pairI pairX at h
        split at h
        · cases h
        · rename_i xs hx
          split at h
          · rename_i hq
            injection h with h
            rw [← h]
            obtain ⟨h2, h3, h4⟩ := hq
            have hb := (numP_some hx).2 (ix xs 0) (by rw [ix_of (by omega)]; exact List.getElem_mem _)
            show (ix xs 0).toNat < D.length
            omega
          · cases h
  · decide
theorem askV_ne {D : List (List Int)} (hs : spB D = true) (T : List UInt8) : askV D T ≠ [] := by
  have hn := (spB_len hs).1
  unfold askV
  split
  · exact dg_ne _
  split
  · exact dg_ne _
  split
  · exact rowT_ne (by simp)
  split
  · exact dg_ne _
  split
  · rw [medsV_ones hs]; exact rowT_ne (meds_ne (by omega))
  split
  · exact orN_ne _
  split
  · exact orN_ne _
  · exact twoI_ne hs T
theorem sayT_ne {D : List (List Int)} {L : List (List (List Int))} (hd : deskB D L = true) (T : List UInt8) : sayT D L T ≠ [] := by
  unfold sayT lineT
  rw [if_pos hd]
  cases rdS T with
  | none => exact askV_ne (deskB_parts hd).1 T
  | some p =>
    show (if doB D L p.1 p.2 = true then [111, 107] else [110, 111]) ≠ []
    split <;> simp
theorem sayL_ne : ∀ (ts : List (List UInt8)) {D : List (List Int)} {L : List (List (List Int))}, deskB D L = true → ∀ t ∈ (sayL ts D L).2.2, t ≠ []
  | [], _, _, _, t, ht => by cases ht
  | T :: r, D, L, hd, t, ht => by
    have ht : t ∈ sayT D L T :: (sayL r (lineD D L T) (lineL D L T)).2.2 := ht
    rcases List.mem_cons.1 ht with e | q
    · rw [e]; exact sayT_ne hd T
    · exact sayL_ne r (line_desk hd) t q
theorem gp_zero {x y z : Int} (h1 : x ≤ max y z) (h2 : y ≤ max x z) (h3 : z ≤ max x y) : gp x y z ≤ 0 := by
  unfold gp
  omega
theorem four_le {ab ac ae bc be ce : Int} (h1 : ab ≤ max ac bc) (h2 : ab ≤ max ae be) (h3 : ce ≤ max ac ae) (h4 : ce ≤ max bc be) : ab + ce ≤ max (ac + be) (ae + bc) := by omega
theorem ultra_gap {D : List (List Int)} (hf : farB D = true) (hu : ∀ i, i < D.length → ∀ k, k < D.length → ∀ j, j < D.length → at2 D i k ≤ max (at2 D i j) (at2 D j k)) : wgI D = 0 := by
  have h1 := wgI_pos D
  have h2 : wgI D ≤ 0 := wgI_le (Int.le_refl _) fun a b c e ha hb hc he => by
    rw [gapI_gp]
    have s1 := far_sym hf ha hb
    have s2 := far_sym hf ha hc
    have s3 := far_sym hf ha he
    have s4 := far_sym hf hb hc
    have s5 := far_sym hf hb he
    have s6 := far_sym hf hc he
    have abc := hu a ha b hb c hc
    have abe := hu a ha b hb e he
    have acb := hu a ha c hc b hb
    have ace := hu a ha c hc e he
    have aeb := hu a ha e he b hb
    have aec := hu a ha e he c hc
    have bca := hu b hb c hc a ha
    have bce := hu b hb c hc e he
    have bea := hu b hb e he a ha
    have bec := hu b hb e he c hc
    have cea := hu c hc e he a ha
    have ceb := hu c hc e he b hb
    rw [← s4] at abc
    rw [← s5] at abe
    rw [← s6] at ace
    rw [← s1] at bca bea
    rw [← s6] at bce
    rw [← s2] at cea
    rw [← s4] at ceb
    generalize at2 D a b = ab at *
    generalize at2 D a c = ac at *
    generalize at2 D a e = ae at *
    generalize at2 D b c = bc at *
    generalize at2 D b e = be at *
    generalize at2 D c e = ce at *
    refine gp_zero ?_ ?_ ?_
    · exact four_le abc abe cea ceb
    · have := four_le (ab := ac) (ac := ab) (ae := ae) (bc := bc) (be := ce) (ce := be) acb ace bea (by omega)
      omega
    · have := four_le (ab := ae) (ac := ac) (ae := ab) (bc := ce) (be := be) (ce := bc) aec aeb (by omega) (by omega)
      omega
  omega
def qBelow : List UInt8 := [98, 101, 108, 111, 119]
def qFar0 : List UInt8 := [102, 97, 114, 32, 48, 44, 48]
theorem rd_below : rdS qBelow = some (3, []) := by decide +kernel
theorem rd_gap : rdS qGap = none := by decide +kernel
theorem rd_far0 : rdS qFar0 = none := by decide +kernel
theorem below_line {D : List (List Int)} {L : List (List (List Int))} (hd : deskB D L = true) : lineD D L qBelow = blwV D := by
  unfold lineD
  rw [if_pos hd, rd_below]
  show doD D L 3 [] = blwV D
  have hb : doB D L 3 [] = decide (blwV D ≠ D) := by
    unfold doB
    rw [if_neg (by decide)]
    rfl
  unfold doD
  rw [if_neg (by decide), hb]
  split
  · rfl
  · rename_i hq
    have : blwV D = D := by
      by_cases q : blwV D = D
      · exact q
      · exact absurd (decide_eq_true q) hq
    exact this.symm
theorem gap_say {D : List (List Int)} {L : List (List (List Int))} (hd : deskB D L = true) (hu : ∀ i, i < D.length → ∀ k, k < D.length → ∀ j, j < D.length → at2 D i k ≤ max (at2 D i j) (at2 D j k)) : sayT D L qGap = [48] := by
  unfold sayT lineT
  rw [if_pos hd, rd_gap]
  show askV D qGap = [48]
  unfold askV
  rw [if_neg (by decide), if_neg (by decide), if_neg (by decide), if_pos rfl, ultra_gap (spB_far (deskB_parts hd).1) hu]
  show Lib.decDigits 0 = [48]
  rw [dig_small (by omega)]
  rfl
theorem num_00 : numP [48, 44, 48] = some [0, 0] := by decide +kernel
theorem cut_00 : cutH 32 qFar0 = true ∧ cutP 32 qFar0 = askFar ∧ cutR 32 qFar0 = [48, 44, 48] ∧ Lib.contains (cutR 32 qFar0) [32] = false := by decide +kernel
theorem far_say {D : List (List Int)} {L : List (List (List Int))} (hd : deskB D L = true) : sayT D L qFar0 = [48] := by
  have hs := (deskB_parts hd).1
  have hn := (spB_len hs).1
  unfold sayT lineT
  rw [if_pos hd, rd_far0]
  show askV D qFar0 = [48]
  unfold askV
  rw [if_neg (by decide), if_neg (by decide), if_neg (by decide), if_neg (by decide), if_neg (by decide), if_neg (by decide), if_neg (by decide)]
  obtain ⟨c1, c2, c3, c4⟩ := cut_00
  unfold twoI
  rw [if_pos ⟨c1, .inl c2, c4⟩, c2, c3]
  have hp : pairI D [48, 44, 48] = some (0, 0) := by
    unfold pairI
    rw [num_00]
    exact if_pos ⟨rfl, by show (0 : Int) < _; omega, by show (0 : Int) < _; omega⟩
  rw [hp]
  show (if askFar = askFar then dg (at2 D 0 0) else rowT (selN (btwB D 0 0) D.length)) = [48]
  rw [if_pos rfl, far_zero (spB_far hs) (by omega)]
  show Lib.decDigits 0 = [48]
  rw [dig_small (by omega)]
  rfl
theorem below_all {D : List (List Int)} {L : List (List (List Int))} (hd : deskB D L = true) :
    deskB (lineD D L qBelow) (lineL D L qBelow) = true ∧ sayT (lineD D L qBelow) (lineL D L qBelow) qGap = [48] ∧ sayT (lineD D L qBelow) (lineL D L qBelow) qFar0 = [48] := by
  have h := line_desk (T := qBelow) hd
  refine ⟨h, ?_, far_say h⟩
  refine gap_say h ?_
  rw [below_line hd]
  exact blwV_ultra (spB_far (deskB_parts hd).1)
end Go.Proofs.YtnalcgcdohlfiaaGreatDoor
