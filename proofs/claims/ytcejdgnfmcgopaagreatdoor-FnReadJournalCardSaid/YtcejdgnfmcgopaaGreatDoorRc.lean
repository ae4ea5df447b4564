/- What is proved: how texts are read: spec.l1Cut, spec.l1Digits. Conditions: those of each contract. -/
import Derived.Test.YtcejdgnfmcgopaaGreatDoorTx
import Derived.Deep.DeepCutAuto
import Derived.Deep.CutBlock
namespace Go.Proofs.YtcejdgnfmcgopaaGreatDoor
open Go.RowKit
/-- what stands between the bytes sep -/
def addHead (p : List UInt8) : List (List UInt8) → List (List UInt8)
  | [] => [p]
  | q :: qs => (p ++ q) :: qs
def pieces (sep : UInt8) : List UInt8 → List (List UInt8)
  | [] => [[]]
  | c :: r => if c = sep then [] :: pieces sep r else addHead [c] (pieces sep r)
theorem addHead_nil {x : List (List UInt8)} (h : x ≠ []) : addHead [] x = x := by
  cases x with
  | nil => exact absurd rfl h
  | cons a l => rfl
theorem addHead_add (p q : List UInt8) (x : List (List UInt8)) : addHead p (addHead q x) = addHead (p ++ q) x := by
  cases x with
  | nil => rfl
  | cons a l => simp [addHead]
theorem pieces_ne (sep : UInt8) (l : List UInt8) : pieces sep l ≠ [] := by
  cases l with
  | nil => exact List.cons_ne_nil _ _
  | cons c r =>
    unfold pieces
    split
    · exact List.cons_ne_nil _ _
    · cases pieces sep r <;> exact List.cons_ne_nil _ _
theorem tx_size (L : List UInt8) : (⟨L.toArray⟩ : ByteArray).size = L.length := by show L.toArray.size = _; simp
theorem index_at {L : List UInt8} {i : Nat} (hi : i < L.length) (W : World) : (Instr.index 9 (.string ⟨L.toArray⟩) (.int .i64 (i : Int))).run Tryz.prog W = .ok (.int .u8 (((L[i]'hi).toNat : Nat) : Int)) W := by
  rw [run_index_string W 9 _ _ _ Tryz.underlying9, dif_pos (by rw [tx_size]; omega)]
  rfl
theorem slice_at {L : List UInt8} {a b : Nat} (ha : a ≤ b) (hb : b ≤ L.length) (W : World) : (Instr.slice 9 (.string ⟨L.toArray⟩) (some (.int .i64 (a : Int))) (some (.int .i64 (b : Int))) none).run Tryz.prog W = .ok (tx ((L.drop a).take (b - a))) W := by
  rw [run_slice_string W 9 _ _ _ _ _ Tryz.underlying9 (by omega) (by omega) (by rw [tx_size]; omega)]
  unfold tx
  rw [← ByteArray.extract_mk]
  simp
theorem slice_end {L : List UInt8} {a : Nat} (ha : a ≤ L.length) (W : World) : (Instr.slice 9 (.string ⟨L.toArray⟩) (some (.int .i64 (a : Int))) none none).run Tryz.prog W = .ok (tx (L.drop a)) W := by
  rw [run_slice_string_from_if W 9 _ _ _ Tryz.underlying9, if_pos (by rw [tx_size]; omega)]
  unfold tx
  rw [tx_size, Int.toNat_natCast, ByteArray.extract_mk, List.take_of_length_le (by simp)]
set_option maxRecDepth 100000 in
set_option maxHeartbeats 4000000 in
theorem l1Cut_any (L : List UInt8) (sep : UInt8) (y : Nat) (hy : sep.toNat = y) (w : World) (hl : L.length ≤ 1048576) :
    Calls Tryz.prog 62 #[.string ⟨L.toArray⟩, .int .u8 y] w fun e w' => ∃ v, e = .returned v ∧ Acc w w' 9 v ((pieces sep L).map tx) ∧ (pieces sep L).length ≤ 1048577 := by
  have hsz := tx_size L
  go_enter Tryz.func62, Tryz.ntmps62
  go_wp2
  go_loopg [5, 6, 7] L.length (fun g s5 s6 s7 wr => ∃ (i fr : Nat) (v : Value) (out : List (List UInt8)), i + g = L.length ∧ fr ≤ i ∧ s7 = .int .i64 i ∧ s6 = .int .i64 fr ∧ v = s5 ∧ Hid (Acc w wr 9 v (out.map tx) ∧ pieces sep L = out ++ addHead ((L.drop fr).take (i - fr)) (pieces sep (L.drop i)) ∧ out.length ≤ i))
  case atStart => exact ⟨0, 0, _, [], by omega, by omega, rfl, rfl, rfl, Lib.hid ⟨Acc.empty _ (Ext.refl _), by rw [Nat.sub_self, List.take_zero, List.drop_zero, addHead_nil (pieces_ne _ _)]; rfl, by simp⟩⟩
  case round =>
    obtain ⟨i, fr, v, out, hi, hf, rfl, rfl, rfl, HW⟩ := hrel
    by_cases hin : i < L.length
    · obtain ⟨g1, rfl⟩ : ∃ g', gk = g' + 1 := ⟨gk - 1, by omega⟩
      have hin' : (i : Int) < (L.length : Nat) := by omega
      have hix := index_at hin
      obtain ⟨c, hc⟩ : ∃ c, L[i]'hin = c := ⟨_, rfl⟩
      have hdr : L.drop i = c :: L.drop (i + 1) := by rw [← hc]; exact List.drop_eq_getElem_cons hin
      have hsl := slice_at (L := L) hf (Nat.le_of_lt hin)
      obtain ⟨p, hp⟩ : ∃ p, (L.drop fr).take (i - fr) = p := ⟨_, rfl⟩
      rw [hp] at hsl
      have HP := Lib.hid hp
      have HD := Lib.hid hdr
      have hc2 : (L[i]'hin).toNat = c.toNat := by rw [hc]
      obtain ⟨x, hx⟩ : ∃ x, c.toNat = x := ⟨_, rfl⟩
      rw [hc2, hx] at hix
      by_cases hcs : c = sep
      · have hxy : ((x : Int) == (y : Int)) = true := by rw [← hx, ← hy, hcs]; exact beq_iff_eq.2 rfl
        have HCS := Lib.hid hcs
        have HPU := Lib.hid (app_run (P := Tryz.prog) (T := 27) (E := 9) (ty := 27) Tryz.underlying27 infoS rfl (by decide) v _ ⟨wr.heap.size, 0, none⟩ 1 1 [tx p] rfl (one_news (cell_new0 wr _ _) rfl) (fun u hu => by simp at hu; rw [hu]; rfl) (HW.out.1.on (Ext.alloc wr (.cells #[tx p] 9))) (by have := HW.out.2.2; simp; omega))
        have HQ : Hid (pieces sep L = (out ++ [p]) ++ addHead ((L.drop (i + 1)).take (i + 1 - (i + 1))) (pieces sep (L.drop (i + 1))) ∧ (out ++ [p]).length ≤ i + 1) := Lib.hid ⟨by
          rw [HW.out.2.1, hdr, HP.out]
          show out ++ addHead _ (if c = sep then _ else _) = _
          rw [if_pos hcs, Nat.sub_self, List.take_zero, addHead_nil (pieces_ne _ _), List.append_assoc]
          show out ++ (p ++ []) :: _ = _
          rw [List.append_nil]; rfl, by have := HW.out.2.2; rw [List.length_append, List.length_singleton]; omega⟩
        have hmap : (out ++ [p]).map tx = out.map tx ++ [tx p] := by rw [List.map_append]; rfl
        have HM := Lib.hid hmap
        clear hc hdr hp hc2 hx hcs hy hf hin HW HP HCS hmap HD
        unfold tx at hsl HPU
        go_wp2_with (at_builtin; go_loud (refine wpList_ex rfl _ _ rfl _ (.slice (some ⟨_, 0, none⟩) 1 1) rfl rfl HPU.out ?_; rintro v6 w6 hS6))
        go_roundg g1
        case measure => omega
        case rel => exact ⟨i + 1, i + 1, _, out ++ [p], by omega, by omega, by go_num, by go_num, rfl, Lib.hid ⟨by rw [HM.out]; exact hS6.1, HQ.out⟩⟩
      · have hxy : ((x : Int) == (y : Int)) = false := beq_eq_false_iff_ne.2 fun q => hcs (by
          apply UInt8.toNat_inj.1
          rw [hx, hy]; omega)
        have HCS := Lib.hid hcs
        clear hc hp hc2 hcs hy
        go_wp2_with fail
        go_roundg g1
        case measure => omega
        case rel => exact ⟨i + 1, fr, _, out, by omega, by omega, by go_num, rfl, rfl, Lib.hid ⟨HW.out.1, by
          rw [HW.out.2.1, hdr]
          show out ++ addHead _ (if c = sep then _ else _) = _
          rw [if_neg HCS.out, addHead_add, HP.out]
          congr 2
          rw [show i + 1 - fr = (i - fr) + 1 by omega, List.take_add_one, HP.out]
          congr 1
          have e : (L.drop fr)[i - fr]? = (L.drop i)[0]? := by rw [List.getElem?_drop, List.getElem?_drop]; congr 1; omega
          rw [e, HD.out]; rfl, by have := HW.out.2.2; omega⟩⟩
    · have hin' : ¬ (i : Int) < (L.length : Nat) := by omega
      obtain rfl : i = L.length := by omega
      have hsl := slice_end (L := L) hf
      obtain ⟨p, hp⟩ : ∃ p, L.drop fr = p := ⟨_, rfl⟩
      rw [hp] at hsl
      have HPU := Lib.hid (app_run (P := Tryz.prog) (T := 27) (E := 9) (ty := 27) Tryz.underlying27 infoS rfl (by decide) v _ ⟨wr.heap.size, 0, none⟩ 1 1 [tx p] rfl (one_news (cell_new0 wr _ _) rfl) (fun u hu => by simp at hu; rw [hu]; rfl) (HW.out.1.on (Ext.alloc wr (.cells #[tx p] 9))) (by have := HW.out.2.2; simp; omega))
      have HQ : Hid (pieces sep L = out ++ [p] ∧ (out ++ [p]).length ≤ 1048577) := Lib.hid ⟨by
        rw [HW.out.2.1, List.drop_length]
        show out ++ addHead _ [[]] = _
        show out ++ [_ ++ []] = _
        rw [List.append_nil, ← hp, List.take_of_length_le (by simp)], by have := HW.out.2.2; rw [List.length_append, List.length_singleton]; omega⟩
      have hmap : (out ++ [p]).map tx = out.map tx ++ [tx p] := by rw [List.map_append]; rfl
      have HM := Lib.hid hmap
      clear hp HW hmap
      unfold tx at hsl HPU
      go_wp2_with (at_builtin; go_loud (refine wpList_ex rfl _ _ rfl _ (.slice (some ⟨_, 0, none⟩) 1 1) rfl rfl HPU.out ?_; rintro v6 w6 hS6))
      go_ret
      exact ⟨_, rfl, by rw [HQ.out.1, HM.out]; exact hS6.1, by rw [HQ.out.1]; exact HQ.out.2⟩
/-- the byte i -/
def ub (L : List UInt8) (i : Nat) : Nat := (L.getD i 0).toNat
theorem ub_of {L : List UInt8} {i : Nat} (h : i < L.length) : (L[i]'h).toNat = ub L i := by simp [ub, List.getD, h]
def accD (L : List UInt8) : Nat → Int
  | 0 => 0
  | i + 1 => 10 * accD L i + ((ub L i : Int) - 48)
/-- the number of a text of one or two digits -/
def dgt (L : List UInt8) : Int := if (1 ≤ L.length ∧ L.length ≤ 2) ∧ ¬ (1 < L.length ∧ ub L 0 = 48) ∧ (∀ i, i < L.length → 48 ≤ ub L i ∧ ub L i ≤ 57) then accD L L.length else -1
theorem accD_le {L : List UInt8} : ∀ i, i ≤ 2 → (∀ j, j < i → 48 ≤ ub L j ∧ ub L j ≤ 57) → 0 ≤ accD L i ∧ accD L i ≤ 99 ∧ (i ≤ 1 → accD L i ≤ 9) := by
  intro i hi h
  match i, hi with
  | 0, _ => simp [accD]
  | 1, _ => have := h 0 (by omega); simp only [accD]; omega
  | 2, _ => have := h 0 (by omega); have := h 1 (by omega); simp only [accD]; omega
theorem dgt_bd (L : List UInt8) : -1 ≤ dgt L ∧ dgt L ≤ 99 := by
  unfold dgt
  split
  · rename_i h
    have := accD_le (L := L) L.length h.1.2 h.2.2
    omega
  · omega
set_option maxRecDepth 100000 in
set_option maxHeartbeats 4000000 in
theorem l1Digits_any (L : List UInt8) (w : World) (hl : L.length ≤ 1048576) :
    Calls Tryz.prog 94 #[.string ⟨L.toArray⟩] w fun e w' => e = .returned (.int .i64 (dgt L)) ∧ Ext w w' := by
  have hsz := tx_size L
  by_cases h12 : 1 ≤ L.length ∧ L.length ≤ 2
  · have HI := Lib.hid (fun W => l1In_any (L.length : Nat) 1 2 W)
    rw [show inB (L.length : Nat) 1 2 = true from decide_eq_true (by omega)] at HI
    have hi0 : ∀ W, (Instr.index 9 (.string ⟨L.toArray⟩) (.int .i64 0)).run Tryz.prog W = .ok (.int .u8 ((ub L 0 : Nat) : Int)) W := by
      intro W
      have := index_at (L := L) (i := 0) (by omega) W
      rw [ub_of] at this
      exact this
    obtain ⟨a, ha⟩ : ∃ a, ub L 0 = a := ⟨_, rfl⟩
    rw [ha] at hi0
    by_cases h48 : 1 < L.length ∧ a = 48
    · obtain ⟨h1, rfl⟩ := h48
      have HE : Hid (dgt L = -1) := Lib.hid (if_neg (fun q => q.2.1 ⟨h1, ha⟩))
      have h1' : (1 : Int) < (L.length : Nat) := by omega
      go_enter Tryz.func94, Tryz.ntmps94
      go_wp2_with fail
      refine (HI.out _).mono ?_
      rintro e w2 ⟨rfl, hw⟩
      rw [hw]
      clear hw w2
      go_wp2_with fail
      go_ret
      exact ⟨by rw [HE.out]; rfl, Ext.refl _⟩
    · have HA : Hid (¬ (1 < L.length ∧ ub L 0 = 48)) := Lib.hid (by rw [ha]; exact h48)
      have hq : ((1 : Int) < (L.length : Nat) ∧ ((a : Int) == 48) = false) ∨ ¬ (1 : Int) < (L.length : Nat) := by
        by_cases q : 1 < L.length
        · exact Or.inl ⟨by omega, beq_eq_false_iff_ne.2 (by omega)⟩
        · exact Or.inr (by omega)
      have H12 := Lib.hid h12
      clear ha h48
      rcases hq with ⟨q1, q2⟩ | q1
      all_goals
        go_enter Tryz.func94, Tryz.ntmps94
        go_wp2_with fail
        refine (HI.out _).mono ?_
        rintro e w2 ⟨rfl, hw⟩
        rw [hw]
        clear hw w2
        go_wp2_with fail
        clear hi0
        go_loopg [3, 4] L.length (fun g s3 s4 wr => ∃ (i : Nat), i + g = L.length ∧ s4 = .int .i64 i ∧ s3 = .int .i64 (accD L i) ∧ Hid (wr = w ∧ ∀ j, j < i → 48 ≤ ub L j ∧ ub L j ≤ 57))
        case atStart => exact ⟨0, by omega, rfl, rfl, Lib.hid ⟨rfl, fun j hj => absurd hj (by omega)⟩⟩
        case round =>
          obtain ⟨i, hi, rfl, rfl, HW⟩ := hrel
          by_cases hin : i < L.length
          · obtain ⟨g1, rfl⟩ : ∃ g', gk = g' + 1 := ⟨gk - 1, by omega⟩
            have hin' : (i : Int) < (L.length : Nat) := by omega
            have hix := index_at hin
            rw [ub_of] at hix
            obtain ⟨x, hx⟩ : ∃ x, ub L i = x := ⟨_, rfl⟩
            rw [hx] at hix
            by_cases hd : 48 ≤ x ∧ x ≤ 57
            · have hb := accD_le (L := L) i (by omega) HW.out.2
              have hb2 := hb.2.2 (by omega)
              have hb1 := hb.1
              have hst : accD L (i + 1) = 10 * accD L i + ((x : Int) - 48) := by rw [← hx]; rfl
              have HX := Lib.hid (show 48 ≤ ub L i ∧ ub L i ≤ 57 by rw [hx]; exact hd)
              obtain ⟨n, hn⟩ : ∃ n, accD L i = n := ⟨_, rfl⟩
              rw [hn] at hst hb1 hb2 ⊢
              have HST := Lib.hid hst
              have n1 : ¬ (x : Int) < 48 := by omega
              have n2 : ¬ 57 < (x : Int) := by omega
              have wa : IntKind.u8.wrap ((x : Int) - 48) = x - 48 := by rw [IntKind.wrap_u8]; omega
              have wb : IntKind.i64.wrap ((x : Int) - 48) = x - 48 := IntWalk.i64_in _ ⟨by omega, by omega⟩
              have wc : IntKind.i64.wrap (10 * n) = 10 * n := IntWalk.i64_in _ ⟨by omega, by omega⟩
              have wd : IntKind.i64.wrap (10 * n + ((x : Int) - 48)) = 10 * n + (x - 48) := IntWalk.i64_in _ ⟨by omega, by omega⟩
              clear hx hb hn hst hd
              go_wp2_with fail
              go_roundg g1
              case measure => omega
              case rel => exact ⟨i + 1, by omega, by go_num, by rw [HST.out], Lib.hid ⟨HW.out.1, fun j hj => by
                by_cases e : j = i
                · subst e; exact HX.out
                · exact HW.out.2 j (by omega)⟩⟩
            · have HE : Hid (dgt L = -1) := Lib.hid (if_neg (fun q => hd (by rw [← hx]; exact q.2.2 i hin)))
              clear hx
              by_cases n1 : (x : Int) < 48
              · clear hd
                go_wp2_with fail
                go_ret
                exact ⟨by rw [HE.out]; rfl, by rw [HW.out.1]; exact Ext.refl _⟩
              · have n2 : 57 < (x : Int) := by omega
                clear hd
                go_wp2_with fail
                go_ret
                exact ⟨by rw [HE.out]; rfl, by rw [HW.out.1]; exact Ext.refl _⟩
          · have hin' : ¬ (i : Int) < (L.length : Nat) := by omega
            obtain rfl : i = L.length := by omega
            have HE : Hid (dgt L = accD L L.length) := Lib.hid (if_pos ⟨H12.out, HA.out, HW.out.2⟩)
            go_wp2
            go_ret
            exact ⟨by rw [HE.out]; rfl, by rw [HW.out.1]; exact Ext.refl _⟩
  · have HI := Lib.hid (fun W => l1In_any (L.length : Nat) 1 2 W)
    rw [show inB (L.length : Nat) 1 2 = false from decide_eq_false (by omega)] at HI
    have HE : Hid (dgt L = -1) := Lib.hid (if_neg (fun q => h12 q.1))
    clear h12
    go_enter Tryz.func94, Tryz.ntmps94
    go_wp2_with fail
    refine (HI.out _).mono ?_
    rintro e w2 ⟨rfl, hw⟩
    rw [hw]
    clear hw w2
    go_wp2_with fail
    go_ret
    exact ⟨by rw [HE.out]; rfl, Ext.refl _⟩
end Go.Proofs.YtcejdgnfmcgopaaGreatDoor
