/- What is proved: contracts and plain laws for what the later texts lean on (Rc, Rs, Ri, Rj, Rp). Conditions: those of each. -/
import Derived.Test.YtnalcgcdohlfiaaGreatDoorTx
import Derived.Deep.DeepCutAuto
import Derived.Deep.CutBlock
import Derived.Test.YtnalcgcdohlfiaaGreatDoorDt
import Derived.Test.YtnalcgcdohlfiaaGreatDoorPa
import Derived.Lib.SmallJoins
import Derived.Lib.SplitLaws
import Derived.Lib.AtoiErrMem
import Derived.Lib.AtoiAll
namespace Go.Proofs.YtnalcgcdohlfiaaGreatDoor
open Go.RowKit
/-- what stands between the bytes sep -/
def addHead (p : List UInt8) : List (List UInt8) → List (List UInt8)
  | [] => [p]
  | q :: qs => (p ++ q) :: qs
def pieces (sep : UInt8) : List UInt8 → List (List UInt8)
  | [] => [[]]
  | c :: r => if c = sep then [] :: pieces sep r else addHead [c] (pieces sep r)
theorem addHead_nil {x : List (List UInt8)} (h : x ≠ []) : addHead [] x = x := by
  cases x with
  | nil => exact absurd rfl h
  | cons a l => rfl
theorem addHead_add (p q : List UInt8) (x : List (List UInt8)) : addHead p (addHead q x) = addHead (p ++ q) x := by
  cases x with
  | nil => rfl
  | cons a l => simp [addHead]
theorem pieces_ne (sep : UInt8) (l : List UInt8) : pieces sep l ≠ [] := by
  cases l with
  | nil => exact List.cons_ne_nil _ _
  | cons c r =>
    unfold pieces
    split
    · exact List.cons_ne_nil _ _
    · cases pieces sep r <;> exact List.cons_ne_nil _ _
theorem tx_size (L : List UInt8) : (⟨L.toArray⟩ : ByteArray).size = L.length := by show L.toArray.size = _; simp
theorem index_at {L : List UInt8} {i : Nat} (hi : i < L.length) (W : World) : (Instr.index 9 (.string ⟨L.toArray⟩) (.int .i64 (i : Int))).run Tryz.prog W = .ok (.int .u8 (((L[i]'hi).toNat : Nat) : Int)) W := by
  rw [run_index_string W 9 _ _ _ Tryz.underlying9, dif_pos (by rw [tx_size]; omega)]
  rfl
theorem slice_at {L : List UInt8} {a b : Nat} (ha : a ≤ b) (hb : b ≤ L.length) (W : World) : (Instr.slice 9 (.string ⟨L.toArray⟩) (some (.int .i64 (a : Int))) (some (.int .i64 (b : Int))) none).run Tryz.prog W = .ok (tx ((L.drop a).take (b - a))) W := by
  rw [run_slice_string W 9 _ _ _ _ _ Tryz.underlying9 (by omega) (by omega) (by rw [tx_size]; omega)]
  unfold tx
  rw [← ByteArray.extract_mk]
  simp
theorem slice_end {L : List UInt8} {a : Nat} (ha : a ≤ L.length) (W : World) : (Instr.slice 9 (.string ⟨L.toArray⟩) (some (.int .i64 (a : Int))) none none).run Tryz.prog W = .ok (tx (L.drop a)) W := by
  rw [run_slice_string_from_if W 9 _ _ _ Tryz.underlying9, if_pos (by rw [tx_size]; omega)]
  unfold tx
  rw [tx_size, Int.toNat_natCast, ByteArray.extract_mk, List.take_of_length_le (by simp)]
set_option maxRecDepth 100000 in
set_option maxHeartbeats 4000000 in
theorem l1Cut_any (L : List UInt8) (sep : UInt8) (y : Nat) (hy : sep.toNat = y) (w : World) (hl : L.length ≤ 1048576) :
    Calls Tryz.prog 47 #[.string ⟨L.toArray⟩, .int .u8 y] w fun e w' => ∃ v, e = .returned v ∧ Acc w w' 9 v ((pieces sep L).map tx) ∧ (pieces sep L).length ≤ 1048577 := by
  have hsz := tx_size L
  go_enter Tryz.func47, Tryz.ntmps47
  go_wp2
  go_loopg [5, 6, 7] L.length (fun g s5 s6 s7 wr => ∃ (i fr : Nat) (v : Value) (out : List (List UInt8)), i + g = L.length ∧ fr ≤ i ∧ s7 = .int .i64 i ∧ s6 = .int .i64 fr ∧ v = s5 ∧ Hid (Acc w wr 9 v (out.map tx) ∧ pieces sep L = out ++ addHead ((L.drop fr).take (i - fr)) (pieces sep (L.drop i)) ∧ out.length ≤ i))
  case atStart => exact ⟨0, 0, _, [], by omega, by omega, rfl, rfl, rfl, Lib.hid ⟨Acc.empty _ (Ext.refl _), by rw [Nat.sub_self, List.take_zero, List.drop_zero, addHead_nil (pieces_ne _ _)]; rfl, by simp⟩⟩
  case round =>
    obtain ⟨i, fr, v, out, hi, hf, rfl, rfl, rfl, HW⟩ := hrel
    by_cases hin : i < L.length
    · obtain ⟨g1, rfl⟩ : ∃ g', gk = g' + 1 := ⟨gk - 1, by omega⟩
      have hin' : (i : Int) < (L.length : Nat) := by omega
      have hix := index_at hin
      obtain ⟨c, hc⟩ : ∃ c, L[i]'hin = c := ⟨_, rfl⟩
      have hdr : L.drop i = c :: L.drop (i + 1) := by rw [← hc]; exact List.drop_eq_getElem_cons hin
      have hsl := slice_at (L := L) hf (Nat.le_of_lt hin)
      obtain ⟨p, hp⟩ : ∃ p, (L.drop fr).take (i - fr) = p := ⟨_, rfl⟩
      rw [hp] at hsl
      have HP := Lib.hid hp
      have HD := Lib.hid hdr
      have hc2 : (L[i]'hin).toNat = c.toNat := by rw [hc]
      obtain ⟨x, hx⟩ : ∃ x, c.toNat = x := ⟨_, rfl⟩
      rw [hc2, hx] at hix
      by_cases hcs : c = sep
      · have hxy : ((x : Int) == (y : Int)) = true := by rw [← hx, ← hy, hcs]; exact beq_iff_eq.2 rfl
        have HCS := Lib.hid hcs
        have HPU := Lib.hid (app_run (P := Tryz.prog) (T := 27) (E := 9) (ty := 27) Tryz.underlying27 infoS rfl (by decide) v _ ⟨wr.heap.size, 0, none⟩ 1 1 [tx p] rfl (one_news (cell_new0 wr _ _) rfl) (fun u hu => by simp at hu; rw [hu]; rfl) (HW.out.1.on (Ext.alloc wr (.cells #[tx p] 9))) (by have := HW.out.2.2; simp; omega))
        have HQ : Hid (pieces sep L = (out ++ [p]) ++ addHead ((L.drop (i + 1)).take (i + 1 - (i + 1))) (pieces sep (L.drop (i + 1))) ∧ (out ++ [p]).length ≤ i + 1) := Lib.hid ⟨by
          rw [HW.out.2.1, hdr, HP.out]
          show out ++ addHead _ (if c = sep then _ else _) = _
          rw [if_pos hcs, Nat.sub_self, List.take_zero, addHead_nil (pieces_ne _ _), List.append_assoc]
          show out ++ (p ++ []) :: _ = _
          rw [List.append_nil]; rfl, by have := HW.out.2.2; rw [List.length_append, List.length_singleton]; omega⟩
        have hmap : (out ++ [p]).map tx = out.map tx ++ [tx p] := by rw [List.map_append]; rfl
        have HM := Lib.hid hmap
        clear hc hdr hp hc2 hx hcs hy hf hin HW HP HCS hmap HD
        unfold tx at hsl HPU
        go_wp2_with (at_builtin; go_loud (refine wpList_ex rfl _ _ rfl _ (.slice (some ⟨_, 0, none⟩) 1 1) rfl rfl HPU.out ?_; rintro v6 w6 hS6))
        go_roundg g1
        case measure => omega
        case rel => exact ⟨i + 1, i + 1, _, out ++ [p], by omega, by omega, by go_num, by go_num, rfl, Lib.hid ⟨by rw [HM.out]; exact hS6.1, HQ.out⟩⟩
      · have hxy : ((x : Int) == (y : Int)) = false := beq_eq_false_iff_ne.2 fun q => hcs (by
          apply UInt8.toNat_inj.1
          rw [hx, hy]; omega)
        have HCS := Lib.hid hcs
        clear hc hp hc2 hcs hy
        go_wp2_with fail
        go_roundg g1
        case measure => omega
        case rel => exact ⟨i + 1, fr, _, out, by omega, by omega, by go_num, rfl, rfl, Lib.hid ⟨HW.out.1, by
          rw [HW.out.2.1, hdr]
          show out ++ addHead _ (if c = sep then _ else _) = _
          rw [if_neg HCS.out, addHead_add, HP.out]
          congr 2
          rw [show i + 1 - fr = (i - fr) + 1 by omega, List.take_add_one, HP.out]
          congr 1
          have e : (L.drop fr)[i - fr]? = (L.drop i)[0]? := by rw [List.getElem?_drop, List.getElem?_drop]; congr 1; omega
          rw [e, HD.out]; rfl, by have := HW.out.2.2; omega⟩⟩
    · have hin' : ¬ (i : Int) < (L.length : Nat) := by omega
      obtain rfl : i = L.length := by omega
      have hsl := slice_end (L := L) hf
      obtain ⟨p, hp⟩ : ∃ p, L.drop fr = p := ⟨_, rfl⟩
      rw [hp] at hsl
      have HPU := Lib.hid (app_run (P := Tryz.prog) (T := 27) (E := 9) (ty := 27) Tryz.underlying27 infoS rfl (by decide) v _ ⟨wr.heap.size, 0, none⟩ 1 1 [tx p] rfl (one_news (cell_new0 wr _ _) rfl) (fun u hu => by simp at hu; rw [hu]; rfl) (HW.out.1.on (Ext.alloc wr (.cells #[tx p] 9))) (by have := HW.out.2.2; simp; omega))
      have HQ : Hid (pieces sep L = out ++ [p] ∧ (out ++ [p]).length ≤ 1048577) := Lib.hid ⟨by
        rw [HW.out.2.1, List.drop_length]
        show out ++ addHead _ [[]] = _
        show out ++ [_ ++ []] = _
        rw [List.append_nil, ← hp, List.take_of_length_le (by simp)], by have := HW.out.2.2; rw [List.length_append, List.length_singleton]; omega⟩
      have hmap : (out ++ [p]).map tx = out.map tx ++ [tx p] := by rw [List.map_append]; rfl
      have HM := Lib.hid hmap
      clear hp HW hmap
      unfold tx at hsl HPU
      go_wp2_with (at_builtin; go_loud (refine wpList_ex rfl _ _ rfl _ (.slice (some ⟨_, 0, none⟩) 1 1) rfl rfl HPU.out ?_; rintro v6 w6 hS6))
      go_ret
      exact ⟨_, rfl, by rw [HQ.out.1, HM.out]; exact hS6.1, by rw [HQ.out.1]; exact HQ.out.2⟩
/-- the byte i -/
def ub (L : List UInt8) (i : Nat) : Nat := (L.getD i 0).toNat
theorem ub_of {L : List UInt8} {i : Nat} (h : i < L.length) : (L[i]'h).toNat = ub L i := by simp [ub, List.getD, h]
def accD (L : List UInt8) : Nat → Int
  | 0 => 0
  | i + 1 => 10 * accD L i + ((ub L i : Int) - 48)
/-- the number of a text of one or two digits -/
def dgt (L : List UInt8) : Int := if (1 ≤ L.length ∧ L.length ≤ 2) ∧ ¬ (1 < L.length ∧ ub L 0 = 48) ∧ (∀ i, i < L.length → 48 ≤ ub L i ∧ ub L i ≤ 57) then accD L L.length else -1
theorem accD_le {L : List UInt8} : ∀ i, i ≤ 2 → (∀ j, j < i → 48 ≤ ub L j ∧ ub L j ≤ 57) → 0 ≤ accD L i ∧ accD L i ≤ 99 ∧ (i ≤ 1 → accD L i ≤ 9) := by
  intro i hi h
  match i, hi with
  | 0, _ => simp [accD]
  | 1, _ => have := h 0 (by omega); simp only [accD]; omega
  | 2, _ => have := h 0 (by omega); have := h 1 (by omega); simp only [accD]; omega
theorem dgt_bd (L : List UInt8) : -1 ≤ dgt L ∧ dgt L ≤ 99 := by
  unfold dgt
  split
  · rename_i h
    have := accD_le (L := L) L.length h.1.2 h.2.2
    omega
  · omega
set_option maxRecDepth 100000 in
set_option maxHeartbeats 4000000 in
theorem l1Digits_any (L : List UInt8) (w : World) (hl : L.length ≤ 1048576) :
    Calls Tryz.prog 75 #[.string ⟨L.toArray⟩] w fun e w' => e = .returned (.int .i64 (dgt L)) ∧ Ext w w' := by
  have hsz := tx_size L
  by_cases h12 : 1 ≤ L.length ∧ L.length ≤ 2
  · have HI := Lib.hid (fun W => l1In_any (L.length : Nat) 1 2 W)
    rw [show inB (L.length : Nat) 1 2 = true from decide_eq_true (by omega)] at HI
    have hi0 : ∀ W, (Instr.index 9 (.string ⟨L.toArray⟩) (.int .i64 0)).run Tryz.prog W = .ok (.int .u8 ((ub L 0 : Nat) : Int)) W := by
      intro W
      have := index_at (L := L) (i := 0) (by omega) W
      rw [ub_of] at this
      exact this
    obtain ⟨a, ha⟩ : ∃ a, ub L 0 = a := ⟨_, rfl⟩
    rw [ha] at hi0
    by_cases h48 : 1 < L.length ∧ a = 48
    · obtain ⟨h1, rfl⟩ := h48
      have HE : Hid (dgt L = -1) := Lib.hid (if_neg (fun q => q.2.1 ⟨h1, ha⟩))
      have h1' : (1 : Int) < (L.length : Nat) := by omega
      go_enter Tryz.func75, Tryz.ntmps75
      go_wp2_with fail
      refine (HI.out _).mono ?_
      rintro e w2 ⟨rfl, hw⟩
      rw [hw]
      clear hw w2
      go_wp2_with fail
      go_ret
      exact ⟨by rw [HE.out]; rfl, Ext.refl _⟩
    · have HA : Hid (¬ (1 < L.length ∧ ub L 0 = 48)) := Lib.hid (by rw [ha]; exact h48)
      have hq : ((1 : Int) < (L.length : Nat) ∧ ((a : Int) == 48) = false) ∨ ¬ (1 : Int) < (L.length : Nat) := by
        by_cases q : 1 < L.length
        · exact Or.inl ⟨by omega, beq_eq_false_iff_ne.2 (by omega)⟩
        · exact Or.inr (by omega)
      have H12 := Lib.hid h12
      clear ha h48
      rcases hq with ⟨q1, q2⟩ | q1
      all_goals
        go_enter Tryz.func75, Tryz.ntmps75
        go_wp2_with fail
        refine (HI.out _).mono ?_
        rintro e w2 ⟨rfl, hw⟩
        rw [hw]
        clear hw w2
        go_wp2_with fail
        clear hi0
        go_loopg [3, 4] L.length (fun g s3 s4 wr => ∃ (i : Nat), i + g = L.length ∧ s4 = .int .i64 i ∧ s3 = .int .i64 (accD L i) ∧ Hid (wr = w ∧ ∀ j, j < i → 48 ≤ ub L j ∧ ub L j ≤ 57))
        case atStart => exact ⟨0, by omega, rfl, rfl, Lib.hid ⟨rfl, fun j hj => absurd hj (by omega)⟩⟩
        case round =>
          obtain ⟨i, hi, rfl, rfl, HW⟩ := hrel
          by_cases hin : i < L.length
          · obtain ⟨g1, rfl⟩ : ∃ g', gk = g' + 1 := ⟨gk - 1, by omega⟩
            have hin' : (i : Int) < (L.length : Nat) := by omega
            have hix := index_at hin
            rw [ub_of] at hix
            obtain ⟨x, hx⟩ : ∃ x, ub L i = x := ⟨_, rfl⟩
            rw [hx] at hix
            by_cases hd : 48 ≤ x ∧ x ≤ 57
            · have hb := accD_le (L := L) i (by omega) HW.out.2
              have hb2 := hb.2.2 (by omega)
              have hb1 := hb.1
              have hst : accD L (i + 1) = 10 * accD L i + ((x : Int) - 48) := by rw [← hx]; rfl
              have HX := Lib.hid (show 48 ≤ ub L i ∧ ub L i ≤ 57 by rw [hx]; exact hd)
              obtain ⟨n, hn⟩ : ∃ n, accD L i = n := ⟨_, rfl⟩
              rw [hn] at hst hb1 hb2 ⊢
              have HST := Lib.hid hst
              have n1 : ¬ (x : Int) < 48 := by omega
              have n2 : ¬ 57 < (x : Int) := by omega
              have wa : IntKind.u8.wrap ((x : Int) - 48) = x - 48 := by rw [IntKind.wrap_u8]; omega
              have wb : IntKind.i64.wrap ((x : Int) - 48) = x - 48 := IntWalk.i64_in _ ⟨by omega, by omega⟩
              have wc : IntKind.i64.wrap (10 * n) = 10 * n := IntWalk.i64_in _ ⟨by omega, by omega⟩
              have wd : IntKind.i64.wrap (10 * n + ((x : Int) - 48)) = 10 * n + (x - 48) := IntWalk.i64_in _ ⟨by omega, by omega⟩
              clear hx hb hn hst hd
              go_wp2_with fail
              go_roundg g1
              case measure => omega
              case rel => exact ⟨i + 1, by omega, by go_num, by rw [HST.out], Lib.hid ⟨HW.out.1, fun j hj => by
                by_cases e : j = i
                · subst e; exact HX.out
                · exact HW.out.2 j (by omega)⟩⟩
            · have HE : Hid (dgt L = -1) := Lib.hid (if_neg (fun q => hd (by rw [← hx]; exact q.2.2 i hin)))
              clear hx
              by_cases n1 : (x : Int) < 48
              · clear hd
                go_wp2_with fail
                go_ret
                exact ⟨by rw [HE.out]; rfl, by rw [HW.out.1]; exact Ext.refl _⟩
              · have n2 : 57 < (x : Int) := by omega
                clear hd
                go_wp2_with fail
                go_ret
                exact ⟨by rw [HE.out]; rfl, by rw [HW.out.1]; exact Ext.refl _⟩
          · have hin' : ¬ (i : Int) < (L.length : Nat) := by omega
            obtain rfl : i = L.length := by omega
            have HE : Hid (dgt L = accD L L.length) := Lib.hid (if_pos ⟨H12.out, HA.out, HW.out.2⟩)
            go_wp2
            go_ret
            exact ⟨by rw [HE.out]; rfl, by rw [HW.out.1]; exact Ext.refl _⟩
  · have HI := Lib.hid (fun W => l1In_any (L.length : Nat) 1 2 W)
    rw [show inB (L.length : Nat) 1 2 = false from decide_eq_false (by omega)] at HI
    have HE : Hid (dgt L = -1) := Lib.hid (if_neg (fun q => h12 q.1))
    clear h12
    go_enter Tryz.func75, Tryz.ntmps75
    go_wp2_with fail
    refine (HI.out _).mono ?_
    rintro e w2 ⟨rfl, hw⟩
    rw [hw]
    clear hw w2
    go_wp2_with fail
    go_ret
    exact ⟨by rw [HE.out]; rfl, Ext.refl _⟩
end Go.Proofs.YtnalcgcdohlfiaaGreatDoor
namespace Go.Proofs.YtnalcgcdohlfiaaGreatDoor
open Go.RowKit
/-- a row of texts to be read -/
def Txts (w : World) (A : Option Addr) (c : Nat) (ps : List (List UInt8)) : Prop :=
  ps.length ≤ c ∧ c ≤ maxLen ∧ ∃ b o, (0 < ps.length → A = some ⟨b, o, none⟩ ∧ ∃ cs, w.heap[b]? = some (.cells cs 9 (0, 0))) ∧ ∀ i, i < ps.length → w.cell? ⟨b, o + i, none⟩ = some (tx (ps.getD i []))
theorem Txts.ext {w w' : World} {A : Option Addr} {c : Nat} {ps : List (List UInt8)} (h : Txts w A c ps) (k : Ext w w') : Txts w' A c ps := by
  obtain ⟨h1, h2, b, o, h3, h4⟩ := h
  refine ⟨h1, h2, b, o, fun q => ?_, fun i hi => k.cell (h4 i hi)⟩
  obtain ⟨e, cs, hb⟩ := h3 q
  exact ⟨e, cs, (k.block (heap_lt hb)).trans hb⟩
theorem Txts.beside {w w' : World} {A : Option Addr} {c : Nat} {ps : List (List UInt8)} {v : Value} {base : Nat} {E : TypeId} {n : Nat} {xs : List Value} (h : Txts w A c ps) (k : Beside v w w') (ho : w.ownsRow base E 1 v n xs) (hE : E ≠ 9) : Txts w' A c ps := by
  obtain ⟨h1, h2, b, o, h3, h4⟩ := h
  by_cases h0 : 0 < ps.length
  · obtain ⟨e, cs, hb⟩ := h3 h0
    have hb' := k.block ho hE hb
    exact ⟨h1, h2, b, o, fun q => ⟨e, cs, hb'⟩, fun i hi => by
      have := h4 i hi
      rw [cell_cells hb] at this
      rw [cell_cells hb']
      exact this⟩
  · exact ⟨h1, h2, b, o, fun q => absurd q h0, fun i hi => absurd hi (by omega)⟩
theorem Acc.texts {w w' : World} {v : Value} {ps : List (List UInt8)} (h : Acc w w' 9 v (ps.map tx)) : ∃ A c, v = .slice A ps.length c ∧ Txts w' A c ps := by
  obtain ⟨-, -, h2⟩ := h
  rcases h2 with ⟨rfl, h0⟩ | ⟨g, cap, cur, rfl, hb, hg, hcap, hm, hs, ht⟩
  · rw [List.length_map] at h0
    exact ⟨none, 0, by rw [h0], by omega, Nat.zero_le _, 0, 0, fun q => absurd q (by omega), fun i hi => absurd hi (by omega)⟩
  · rw [List.length_map] at hcap ht ⊢
    refine ⟨_, cap, rfl, hcap, hm, g, 0, fun _ => ⟨rfl, cur, hg⟩, fun i hi => ?_⟩
    rw [Nat.zero_add, cell_cells hg]
    have e : (cur.toList.take (ps.length * 1))[i]? = (ps.map tx)[i]? := by rw [ht]
    rw [List.getElem?_take, if_pos (by omega)] at e
    rw [← Array.getElem?_toList, e]
    simp [hi]
theorem l1Cut_z (L : List UInt8) (sep : UInt8) (z : Int) (hz : z = (sep.toNat : Int)) (w : World) (hl : L.length ≤ 1048576) :
    Calls Tryz.prog 47 #[.string ⟨L.toArray⟩, .int .u8 z] w fun e w' => ∃ A c, e = .returned (.slice A (pieces sep L).length c) ∧ Txts w' A c (pieces sep L) ∧ (pieces sep L).length ≤ 1048577 ∧ Ext w w' := by
  subst hz
  refine (l1Cut_any L sep _ rfl w hl).mono ?_
  rintro e w1 ⟨v, rfl, h1, h2⟩
  obtain ⟨A, c, rfl, h3⟩ := h1.texts
  exact ⟨A, c, rfl, h3, h2, h1.x⟩
theorem piece_len (sep : UInt8) (L : List UInt8) : ∀ p ∈ pieces sep L, p.length ≤ L.length := by
  induction L with
  | nil => intro p hp; simp [pieces] at hp; subst hp; simp
  | cons c r ih =>
    intro p hp
    unfold pieces at hp
    split at hp
    · rcases List.mem_cons.1 hp with e | e
      · subst e; simp
      · have := ih p e; simp only [List.length_cons]; omega
    · cases hq : pieces sep r with
      | nil => exact absurd hq (pieces_ne _ _)
      | cons a l =>
        rw [hq] at hp ih
        rcases List.mem_cons.1 hp with e | e
        · have := ih a (List.mem_cons_self)
          rw [e, List.length_append]
          simp only [List.length_cons, List.length_nil]
          omega
        · have := ih p (List.mem_cons_of_mem _ e)
          simp only [List.length_cons]
          omega
theorem store2 {W : World} {g : Nat} {a b : Value} {T : TypeId} (hb : W.heap[g]? = some (.cells #[a, b] T (0, 0))) (x y : Value) :
    (W.cell? ⟨g, 0, none⟩ = some a ∧ W.frozen? ⟨g, 0, none⟩ = false) ∧ W.cell? ⟨g, 1, none⟩ = some b ∧ ((W.setCell ⟨g, 0, none⟩ x).cell? ⟨g, 1, none⟩ = some b ∧ (W.setCell ⟨g, 0, none⟩ x).frozen? ⟨g, 1, none⟩ = false) ∧ W.frozen? ⟨g, 1, none⟩ = false ∧
      ((W.setCell ⟨g, 0, none⟩ x).setCell ⟨g, 1, none⟩ y).cell? ⟨g, 0, none⟩ = some x ∧ ((W.setCell ⟨g, 0, none⟩ x).setCell ⟨g, 1, none⟩ y).cell? ⟨g, 1, none⟩ = some y := by
  obtain ⟨c0, c1⟩ := two_cells hb
  have s0 := set_0 (u := x) hb
  have s1 := set_1 (u := y) s0
  obtain ⟨d0, d1⟩ := two_cells s0
  obtain ⟨e0, e1⟩ := two_cells s1
  exact ⟨⟨c0, frozen_cells hb 0⟩, c1, ⟨d1, frozen_cells s0 1⟩, frozen_cells hb 1, e0, e1⟩
/-- the numbers of a text of two words -/
def rlist (L : List UInt8) : List Int := if (pieces 32 L).length = 2 then (pieces 44 ((pieces 32 L).getD 1 [])).map dgt else []
def rfirst (L : List UInt8) (xs : List Int) : Nat → Nat → Option (Int × List Int)
  | 0, _ => none
  | g + 1, k => if L ≠ [] ∧ dtx k xs = L then some ((k : Int), xs) else rfirst L xs g (k + 1)
/-- the deed of a text -/
def rdS (L : List UInt8) : Option (Int × List Int) := rfirst L (rlist L) 5 0
def rk : Option (Int × List Int) → Int
  | none => 0
  | some p => p.1
def rx : Option (Int × List Int) → List Int
  | none => []
  | some p => p.2
/-- what a deed that has been read leaves -/
def RdE (w : World) (r : Option (Int × List Int)) (e : Ending) (w' : World) : Prop :=
  ∃ v, e = .returned (.tuple #[.agg #[.int .i64 (rk r), v], .bool r.isSome]) ∧ Leaf w' v (rx r) ∧ (∀ g ∈ lb v, w.heap.size ≤ g) ∧ Ext w w'
set_option maxRecDepth 100000 in
set_option maxHeartbeats 4000000 in
theorem sReadDeed_any (L : List UInt8) (w : World) (hl : L.length ≤ 1048576) :
    Calls Tryz.prog 39 #[.string ⟨L.toArray⟩] w (RdE w (rdS L)) := by
  obtain ⟨w0, hw0⟩ : ∃ W, w.alloc (.cells #[.int .i64 0, .slice none 0 0] 54) = W := ⟨_, rfl⟩
  have hx0 : Ext w w0 := by rw [← hw0]; exact Ext.alloc _ _
  have hb := heap_alloc_new w (.cells #[.int .i64 0, .slice none 0 0] 54)
  rw [hw0] at hb
  have HB := Lib.hid (fun W (q : Ext w0 W) => (q.block (heap_lt hb)).trans hb)
  have hs0 : w0.heap.size = w.heap.size + 1 := by rw [← hw0]; simp
  have HPL := Lib.hid (piece_len 32 L)
  go_enter Tryz.func39, Tryz.ntmps39
  go_wp2_with fail
  clear hw0 hb
  refine (l1Cut_z L 32 32 rfl w0 hl).mono ?_
  rintro e w1 ⟨A1, c1, rfl, hT1, hN1, hx1⟩
  have HT1 := Lib.hid hT1
  clear hT1
  obtain ⟨ws, hws⟩ : ∃ p, pieces 32 L = p := ⟨_, rfl⟩
  have HWS := Lib.hid hws
  rw [hws] at HT1 hN1 HPL ⊢
  clear hws
  have HX1 := Lib.hid hx1
  clear hx1
  go_upto_if 15 with fail
  go_cut [5] (fun s5 wx => ∃ A c, s5 = .slice A (rlist L).length c ∧ Hid (Leaf wx (.slice A (rlist L).length c) (rlist L) ∧ (∀ g ∈ lb (.slice A (rlist L).length c), w0.heap.size ≤ g) ∧ (rlist L).length ≤ 1048577) ∧ Hid (Ext w0 wx))
  case first =>
    by_cases h2 : ws.length = 2
    · have h2' : ((ws.length : Int) == 2) = true := beq_iff_eq.2 (by omega)
      have h2'' : (1 : Int) < (ws.length : Nat) := by omega
      obtain ⟨P, hP⟩ : ∃ P, ws.getD 1 [] = P := ⟨_, rfl⟩
      have hPL : P.length ≤ 1048576 := by
        have : P ∈ ws := by rw [← hP]; simp [List.getD, show 1 < ws.length by omega]
        have := HPL.out P this
        omega
      have HRL : Hid (rlist L = (pieces 44 P).map dgt) := Lib.hid (by unfold rlist; rw [HWS.out, if_pos h2, hP])
      obtain ⟨t1, t2, b1, o1, t3, t4⟩ := HT1.out.ext (Ext.alloc w1 (.cells #[] 3))
      have t5 := t4 1 (by omega)
      rw [hP] at t5
      obtain ⟨rfl, -⟩ := t3 (by omega)
      have HPP := Lib.hid (piece_len 44 P)
      clear t3 t4 hP h2
      unfold maxLen at t2
      unfold tx at t5
      go_wp2_with fail
      refine (l1Cut_z P 44 44 rfl _ hPL).mono ?_
      rintro e w2 ⟨A2, c2, rfl, hT2, hN2, hx2⟩
      have HAC := Lib.hid ((Acc.empty (w0 := w1) (w := w1) 3 (Ext.refl _)).on hx2)
      have HT2 := Lib.hid hT2
      obtain ⟨ps, hps⟩ : ∃ p, pieces 44 P = p := ⟨_, rfl⟩
      rw [hps] at HT2 hN2 HRL HPP ⊢
      clear hT2 hps t5 hx2
      obtain ⟨u1, u2, -⟩ := HT2.out
      unfold maxLen at u2
      go_wp2_with fail
      go_loopg [5, 7] ps.length (fun g s5 s7 wr => ∃ (i : Nat) (v : Value), i + g = ps.length ∧ s7 = .int .i64 i ∧ v = s5 ∧ Hid (Acc w1 wr 3 v (((ps.take i).map dgt).map (Value.int .i64)) ∧ Txts wr A2 c2 ps))
      case atStart => exact ⟨0, _, by omega, rfl, rfl, Lib.hid ⟨HAC.out, HT2.out⟩⟩
      case round =>
        obtain ⟨i, v, hi, rfl, rfl, HW⟩ := hrel
        by_cases hin : i < ps.length
        · obtain ⟨g1, rfl⟩ : ∃ g', gk = g' + 1 := ⟨gk - 1, by omega⟩
          have hin' : (i : Int) < (ps.length : Nat) := by omega
          obtain ⟨-, -, b2, o2, t3, t4⟩ := HW.out.2
          obtain ⟨rfl, -⟩ := t3 (by omega)
          have t5 := t4 i hin
          obtain ⟨Q, hQ⟩ : ∃ Q, ps.getD i [] = Q := ⟨_, rfl⟩
          have hmem : Q ∈ ps := by rw [← hQ]; simp [List.getD, hin]
          have hQL := HPP.out Q hmem
          have hst : ((ps.take (i + 1)).map dgt).map (Value.int .i64) = ((ps.take i).map dgt).map (Value.int .i64) ++ [.int .i64 (dgt Q)] := by
            rw [List.take_succ_eq_append_getElem hin, List.map_append, List.map_append]
            congr 1
            rw [← hQ]
            simp [List.getD, hin]
          have HST := Lib.hid hst
          rw [hQ] at t5
          have HD := Lib.hid (l1Digits_any Q wr (by omega))
          obtain ⟨d, hd⟩ : ∃ d, dgt Q = d := ⟨_, rfl⟩
          rw [hd] at HD HST
          unfold tx at t5
          clear t3 t4 hQ hmem hst hd
          go_wp2_with fail
          refine HD.out.mono ?_
          rintro e w5 ⟨rfl, hx5⟩
          have HPU := Lib.hid (app_run (P := Tryz.prog) (w0 := w1) (T := 47) (E := 3) (ty := 47) Tryz.underlying47 infoI rfl (by decide) v (((ps.take i).map dgt).map (Value.int .i64)) ⟨w5.heap.size, 0, none⟩ 1 1 [.int .i64 d] rfl (one_news (cell_new0 w5 _ _) rfl) (map_one [d]) (HW.out.1.on (hx5.trans (Ext.alloc w5 (.cells #[.int .i64 d] 3)))) (by simp; omega))
          have HX5 := Lib.hid (And.intro (HW.out.2.ext (hx5.trans (Ext.alloc w5 (.cells #[.int .i64 d] 3)))) (HW.out.1.on (hx5.trans (Ext.alloc w5 (.cells #[.int .i64 d] 3)))).2)
          clear hx5
          go_wp2_with (at_builtin; go_loud (refine wpList_ex rfl _ _ rfl _ (.slice (some ⟨_, 0, none⟩) 1 1) rfl rfl HPU.out ?_; rintro v6 w6 hS6))
          go_roundg g1
          case measure => omega
          case rel => exact ⟨i + 1, _, by omega, by go_num, rfl, Lib.hid ⟨by rw [HST.out]; exact hS6.1, HX5.out.1.beside hS6.2.1 HX5.out.2 (by decide)⟩⟩
        · have hin' : ¬ (i : Int) < (ps.length : Nat) := by omega
          obtain rfl : i = ps.length := by omega
          have ha := HW.out.1
          rw [List.take_length] at ha
          obtain ⟨hLf, hLb⟩ := Leaf.of_own ha.2
          obtain ⟨Ar, cr, hvr, -⟩ := hLf.ints
          subst hvr
          have HR := Lib.hid (And.intro hLf hLb)
          have hlen : (List.map dgt ps).length = ps.length := by simp
          have HLN := Lib.hid hlen
          have HXr := Lib.hid (show Ext w0 wr from HX1.out.trans ha.1)
          clear ha hLf hLb HW hlen
          go_wp2_with fail
          go_meet
          case rel =>
            rw [HRL.out]
            refine ⟨Ar, cr, by rw [HLN.out], Lib.hid ⟨?_, ?_, by rw [HLN.out]; omega⟩, HXr⟩
            · exact HR.out.1
            · exact fun g hg => Nat.le_trans HX1.out.size (HR.out.2 g hg)
    · have h2' : ((ws.length : Int) == 2) = false := beq_eq_false_iff_ne.2 (by omega)
      have HRL : Hid (rlist L = []) := Lib.hid (by unfold rlist; rw [HWS.out, if_neg h2])
      clear h2
      go_wp2_with fail
      go_meet
      case rel =>
        rw [HRL.out]
        exact ⟨_, _, rfl, Lib.hid ⟨⟨_, _, rfl, Nat.le_refl _, Nat.zero_le _, fun q => absurd q (by simp)⟩, fun g hg => by simp [lb] at hg, by simp⟩, Lib.hid (HX1.out.trans (Ext.alloc _ _))⟩
  case rest =>
    obtain ⟨A3, c3, rfl, HI3, HX3⟩ := hcut
    obtain ⟨xs, hxs⟩ : ∃ p, rlist L = p := ⟨_, rfl⟩
    rw [hxs] at HI3 ⊢
    have HRD : Hid (rdS L = rfirst L xs 5 0) := Lib.hid (by unfold rdS; rw [hxs])
    clear hxs
    have HIN : Hid (Ints wc A3 c3 xs) := Lib.hid (by
      obtain ⟨A', c', e, h⟩ := HI3.out.1.ints
      injection e with e1 _ e2
      subst e1 e2
      exact h)
    have HSD := Lib.hid (fun W (q : Ext wc W) (k : Nat) => sDeedText_any k A3 c3 xs W (HIN.out.ext q) (by have := HI3.out.2.2; omega))
    have HSZ := Lib.hid (show w0.heap.size = w.heap.size + 1 from hs0)
    have hxl := HI3.out.2.2
    go_wp2_with fail
    go_loopg [8] 5 (fun g s8 wr => ∃ (k : Nat), k + g = 5 ∧ s8 = .int .i64 k ∧ Hid (Ext wc wr ∧ rfirst L xs g k = rdS L))
    case atStart => exact ⟨0, by omega, rfl, Lib.hid ⟨Ext.refl _, HRD.out.symm⟩⟩
    case round =>
      obtain ⟨k, hk, rfl, HW⟩ := hrel
      by_cases hin : k < 5
      · obtain ⟨g1, rfl⟩ : ∃ g', gk = g' + 1 := ⟨gk - 1, by omega⟩
        have hin' : (k : Int) ≤ 4 := by omega
        have HST : Hid ((if L ≠ [] ∧ dtx k xs = L then some ((k : Int), xs) else rfirst L xs g1 (k + 1)) = rdS L) := Lib.hid HW.out.2
        have HWX := Lib.hid HW.out.1
        clear HW
        by_cases hL : L = []
        · have hL' : L.isEmpty = true := by rw [hL]; rfl
          have HST2 : Hid (rfirst L xs g1 (k + 1) = rdS L) := Lib.hid (by rw [← HST.out, if_neg (fun q => q.1 hL)])
          clear hL HST
          go_wp2_with fail
          go_roundg g1
          case measure => omega
          case rel => exact ⟨k + 1, by omega, by go_num, Lib.hid ⟨HWX.out.trans (Ext.alloc _ _), HST2.out⟩⟩
        · have hL' : L.isEmpty = false := by
            cases L with
            | nil => exact absurd rfl hL
            | cons a l => rfl
          obtain ⟨T, hT⟩ : ∃ T, dtx k xs = T := ⟨_, rfl⟩
          have HS := Lib.hid (HSD.out (wr.alloc (.cells #[.int .i64 k, .slice A3 xs.length c3] 54)) (HWX.out.trans (Ext.alloc _ _)) k)
          rw [hT] at HST HS
          have hb0 := heap_alloc_new wr (.cells #[.int .i64 k, .slice A3 xs.length c3] 54)
          have HB0 := Lib.hid (fun W (q : Ext (wr.alloc (.cells #[.int .i64 k, .slice A3 xs.length c3] 54)) W) => two_cells ((q.block (heap_lt hb0)).trans hb0))
          obtain ⟨z0, z1⟩ := two_cells hb0
          clear hT hb0
          unfold tx at HS
          by_cases hTL : T = L
          · have HE : Hid (rdS L = some ((k : Int), xs)) := Lib.hid (by rw [← HST.out, if_pos ⟨hL, hTL⟩])
            subst hTL
            go_wp2_with fail
            refine HS.out.mono ?_
            rintro e w5 ⟨rfl, hx5⟩
            clear z0 z1
            obtain ⟨z0, z1⟩ := HB0.out w5 hx5
            have HX5 := Lib.hid (HWX.out.trans ((Ext.alloc _ _).trans hx5))
            have hb5 := HB.out w5 (HX3.out.trans HX5.out)
            obtain ⟨⟨f1, f2⟩, f1', ⟨f3, f4⟩, f4', f5, f6⟩ := store2 hb5 (.int .i64 k) (.slice A3 xs.length c3)
            have hLF := (HI3.out.1.keep (fun g hg => HX5.out.block (HI3.out.1.lt hg))).keep (w' := (w5.setCell ⟨w.heap.size, 0, none⟩ (.int .i64 k)).setCell ⟨w.heap.size, 1, none⟩ (.slice A3 xs.length c3)) (fun g hg => by
              have h1 := HI3.out.2.1 g hg
              have h2 := HSZ.out
              exact (Below.heap_setCell _ _ _ _ (by show g ≠ w.heap.size; omega)).trans (Below.heap_setCell _ _ _ _ (by show g ≠ w.heap.size; omega)))
            have HLF := Lib.hid hLF
            have HXE := Lib.hid (show Ext w ((w5.setCell ⟨w.heap.size, 0, none⟩ (.int .i64 k)).setCell ⟨w.heap.size, 1, none⟩ (.slice A3 xs.length c3)) from ((hx0.trans (HX3.out.trans HX5.out)).setCell' (p := ⟨w.heap.size, 0, none⟩) (Nat.le_refl _) _).setCell' (p := ⟨w.heap.size, 1, none⟩) (Nat.le_refl _) _)
            clear hb5 hLF hx5
            go_wp2_with fail
            refine bodyPost_ret (v := .tuple #[.agg #[.int .i64 k, .slice A3 xs.length c3], .bool true]) (by simp [results, Tryz.results39, go_sem, f5, f6]) rfl ?_
            show RdE w (rdS _) _ _
            rw [HE.out]
            exact ⟨.slice A3 xs.length c3, rfl, HLF.out, fun g hg => by have := HI3.out.2.1 g hg; have := HSZ.out; omega, HXE.out⟩
          · have HST2 : Hid (rfirst L xs g1 (k + 1) = rdS L) := Lib.hid (by rw [← HST.out, if_neg (fun q => hTL q.2)])
            have hTL' : (T == L) = false := beq_eq_false_iff_ne.2 hTL
            clear HST
            go_wp2_with fail
            refine HS.out.mono ?_
            rintro e w5 ⟨rfl, hx5⟩
            clear z0 z1
            go_wp2_with fail
            go_roundg g1
            case measure => omega
            case rel => exact ⟨k + 1, by omega, by go_num, Lib.hid ⟨HWX.out.trans ((Ext.alloc _ _).trans hx5), HST2.out⟩⟩
      · have hin' : ¬ (k : Int) ≤ 4 := by omega
        obtain rfl : gk = 0 := by omega
        have HE : Hid (rdS L = none) := Lib.hid HW.out.2.symm
        have HX5 := Lib.hid HW.out.1
        have hb5 := HB.out wr (HX3.out.trans HX5.out)
        obtain ⟨⟨f1, f2⟩, f1', ⟨f3, f4⟩, f4', f5, f6⟩ := store2 hb5 (.int .i64 0) (.slice none 0 0)
        have HXE := Lib.hid (show Ext w ((wr.setCell ⟨w.heap.size, 0, none⟩ (.int .i64 0)).setCell ⟨w.heap.size, 1, none⟩ (.slice none 0 0)) from ((hx0.trans (HX3.out.trans HX5.out)).setCell' (p := ⟨w.heap.size, 0, none⟩) (Nat.le_refl _) _).setCell' (p := ⟨w.heap.size, 1, none⟩) (Nat.le_refl _) _)
        clear hb5 HW
        go_wp2_with fail
        refine bodyPost_ret (v := .tuple #[.agg #[.int .i64 0, .slice none 0 0], .bool false]) (by simp [results, Tryz.results39, go_sem, f5, f6]) rfl ?_
        show RdE w (rdS L) _ _
        rw [HE.out]
        exact ⟨.slice none 0 0, rfl, ⟨_, _, rfl, Nat.le_refl _, Nat.zero_le _, fun q => absurd q (by simp [rx])⟩, fun g hg => by simp [lb] at hg, HXE.out⟩
end Go.Proofs.YtnalcgcdohlfiaaGreatDoor
namespace Go.Proofs.YtnalcgcdohlfiaaGreatDoor
open Go.RowKit
/-- what the library's variables hold -/
def Env (w : World) : Prop :=
  Names w ∧ (∃ m, w.cell? ⟨1, 0, none⟩ = some (.int .i64 m)) ∧ (∃ t p, w.cell? ⟨2, 0, none⟩ = some (.iface t p)) ∧ (∃ t p, w.cell? ⟨3, 0, none⟩ = some (.iface t p))
theorem Env.ext {w w' : World} (h : Env w) (k : Ext w w') : Env w' := by
  obtain ⟨h1, ⟨m, h2⟩, ⟨t, p, h3⟩, ⟨u, q, h4⟩⟩ := h
  exact ⟨h1.ext k, ⟨m, k.cell h2⟩, ⟨t, p, k.cell h3⟩, ⟨u, q, k.cell h4⟩⟩
/-- the number of a text of digits, 0..99 -/
def aN (p : List UInt8) : Option Int := match Lib.atoiAll p with
  | .ok v => if 0 ≤ v ∧ v ≤ 99 then some v else none
  | _ => none
def nums : List (List UInt8) → Option (List Int)
  | [] => some []
  | p :: ps => match aN p, nums ps with
    | some v, some vs => some (v :: vs)
    | _, _ => none
theorem nums_some : ∀ (ps : List (List UInt8)) (vs : List Int), vs.length = ps.length → (∀ j, j < ps.length → aN (ps.getD j []) = some (ix vs j)) → nums ps = some vs
  | [], [], _, _ => rfl
  | [], _ :: _, h, _ => by simp at h
  | _ :: _, [], h, _ => by simp at h
  | p :: ps, v :: vs, h, k => by
    have h0 := k 0 (by simp)
    have h1 := nums_some ps vs (by simpa using h) (fun j hj => by
      have := k (j + 1) (by simp; omega)
      simpa [ix] using this)
    simp only [nums]
    rw [h1]
    have h2 : aN p = some v := by simpa [ix] using h0
    rw [h2]
theorem nums_none : ∀ (ps : List (List UInt8)) (j : Nat), j < ps.length → aN (ps.getD j []) = none → nums ps = none
  | [], _, h, _ => by simp at h
  | p :: ps, 0, _, h => by
    have h2 : aN p = none := by simpa using h
    simp only [nums]
    rw [h2]
  | p :: ps, j + 1, hj, h => by
    have h1 := nums_none ps j (by simpa using hj) (by simpa using h)
    simp only [nums]
    rw [h1]
    cases aN p <;> rfl
/-- strings.Split at a comma -/
def spl (R : List UInt8) : List (List UInt8) := (Lib.splitB ⟨#[44]⟩ 0 (Lib.countB ⟨R.toArray⟩ ⟨#[44]⟩) ⟨R.toArray⟩).map fun s => s.data.toList
theorem splitB_size (sep : ByteArray) : ∀ (k : Nat) (s : ByteArray), ∀ p ∈ Lib.splitB sep 0 k s, p.size ≤ s.size
  | 0, s, p, h => by
    rw [Lib.splitB_zero] at h
    simp at h
    rw [h]; exact Nat.le_refl _
  | k + 1, s, p, h => by
    unfold Lib.splitB at h
    split at h
    · simp at h
      rw [h]; exact Nat.le_refl _
    · rcases List.mem_cons.1 h with e | e
      · rw [e, ByteArray.size_extract]; omega
      · have := splitB_size sep k _ p e
        rw [ByteArray.size_extract] at this
        omega
theorem split_any (R : List UInt8) (w : World) (hl : R.length ≤ 1048576) (hm : ∃ m, w.cell? ⟨1, 0, none⟩ = some (.int .i64 m)) :
    Calls Tryz.prog 88 #[.string ⟨R.toArray⟩, .string ⟨#[44]⟩] w fun e w' => ∃ A c, e = .returned (.slice A (spl R).length c) ∧ Txts w' A c (spl R) ∧ (spl R).length ≤ 1048577 ∧ (∀ p ∈ spl R, p.length ≤ R.length) ∧ Ext w w' := by
  obtain ⟨m, hm⟩ := hm
  have hsz := tx_size R
  have hlen : (Lib.splitB ⟨#[44]⟩ 0 (Lib.countB ⟨R.toArray⟩ ⟨#[44]⟩) ⟨R.toArray⟩).length = Lib.countB ⟨R.toArray⟩ ⟨#[44]⟩ + 1 := Lib.splitB_all _ (by decide) 0 _ _ rfl
  have hle := Lib.countB_le ⟨#[44]⟩ (by decide) _ (⟨R.toArray⟩ : ByteArray) (Nat.le_refl _)
  have hn : (spl R).length = Lib.countB ⟨R.toArray⟩ ⟨#[44]⟩ + 1 := by unfold spl; rw [List.length_map, hlen]
  refine (strings_Split ⟨R.toArray⟩ ⟨#[44]⟩ m w (by omega) hm (by decide)).mono ?_
  rintro e w' ⟨rfl, rfl⟩
  have hb := heap_alloc_new w (.cells ((Lib.splitB ⟨#[44]⟩ 0 (Lib.countB ⟨R.toArray⟩ ⟨#[44]⟩) ⟨R.toArray⟩).map Value.string).toArray 9)
  refine ⟨_, _, by rw [hn], ⟨by omega, by rw [hn.symm]; unfold maxLen; omega, w.heap.size, 0, fun _ => ⟨rfl, _, hb⟩, fun i hi => ?_⟩, by omega, ?_, Ext.alloc _ _⟩
  · rw [Nat.zero_add, cell_cells hb]
    unfold spl tx
    rw [hn, ← hlen] at hi
    simp [List.getD, hi]
  · intro p hp
    obtain ⟨s, hs, rfl⟩ := List.mem_map.1 hp
    have := splitB_size _ _ _ s hs
    rw [hsz] at this
    simpa using this
theorem num_end (e : Lib.NumEnd Int) : e = Lib.NumEnd.syntax ∨ e = Lib.NumEnd.range ∨ ∃ v, e = Lib.NumEnd.ok v := by
  cases e with
  | ok v => exact Or.inr (Or.inr ⟨v, rfl⟩)
  | range => exact Or.inr (Or.inl rfl)
  | _ => exact Or.inl rfl
theorem atoi_any (p : List UInt8) (w : World) (hl : p.length ≤ 1048576) (hE : Env w) :
    Calls Tryz.prog 89 #[.string ⟨p.toArray⟩] w fun e w' => ∃ (x : Int) (u : Value), e = .returned (.tuple #[.int .i64 x, u]) ∧ Ext w w' ∧ ((u = .nilIface ∧ (aN p = if 0 ≤ x ∧ x ≤ 99 then some x else none)) ∨ (aN p = none ∧ ∃ t N, u = .iface t (.pointer (some ⟨N, 0, none⟩)))) := by
  have hsz := tx_size p
  have hp : (⟨p.toArray⟩ : ByteArray).data.toList = p := rfl
  rcases num_end (Lib.atoiAll p) with h | h | ⟨v, h⟩
  rotate_left
  rotate_left
  · refine (strconv_Atoi_ok ⟨p.toArray⟩ (by omega) v h w).mono ?_
    rintro e w' ⟨rfl, hw⟩
    refine ⟨v, _, rfl, ?_, Or.inl ⟨rfl, by unfold aN; rw [h]⟩⟩
    rcases hw with rfl | ⟨t, rfl⟩
    · exact Ext.refl _
    · exact Lib.bytesWorld_below _ _ _
  · obtain ⟨t, q, hv⟩ := hE.2.2.1
    refine (strconv_Atoi_syntax ⟨p.toArray⟩ (by omega) h _ w hv (Or.inr ⟨t, q, rfl⟩)).mono ?_
    rintro e w' ⟨N, rfl, -, -, hx⟩
    exact ⟨0, _, rfl, hx, Or.inr ⟨by unfold aN; rw [h], _, N, rfl⟩⟩
  · obtain ⟨t, q, hv⟩ := hE.2.2.2
    refine (strconv_Atoi_range ⟨p.toArray⟩ (by omega) h _ w hv (Or.inr ⟨t, q, rfl⟩)).mono ?_
    rintro e w' ⟨N, rfl, -, -, hx⟩
    exact ⟨_, _, rfl, hx, Or.inr ⟨by unfold aN; rw [h], _, N, rfl⟩⟩
set_option maxRecDepth 100000 in
set_option maxHeartbeats 4000000 in
theorem readNumbers_any (R : List UInt8) (w : World) (hl : R.length ≤ 1048576) (hE : Env w) :
    Calls Tryz.prog 59 #[.string ⟨R.toArray⟩] w fun e w' => Ext w w' ∧ ((nums (spl R) = none ∧ e = .returned (.tuple #[.slice none 0 0, .bool false])) ∨ (∃ xs v, nums (spl R) = some xs ∧ xs.length ≤ 1048577 ∧ e = .returned (.tuple #[v, .bool (decide (rowT xs = R))]) ∧ Leaf w' v xs ∧ ∀ g ∈ lb v, w.heap.size ≤ g)) := by
  have HE := Lib.hid hE
  clear hE
  go_enter Tryz.func59, Tryz.ntmps59
  go_wp2_with fail
  refine (split_any R _ hl (HE.out.ext (Ext.alloc _ _)).2.1).mono ?_
  rintro e w1 ⟨A1, c1, rfl, hT1, hN1, hP1, hx1⟩
  have HAC := Lib.hid ((Acc.empty (w0 := w) (w := w) 3 (Ext.refl _)).on hx1)
  obtain ⟨ps, hps⟩ : ∃ p, spl R = p := ⟨_, rfl⟩
  rw [hps] at hT1 hN1 hP1 ⊢
  have HPS := Lib.hid hps
  have HT1 := Lib.hid hT1
  have HP1 := Lib.hid hP1
  have hu1 := hT1.1
  have hu2 := hT1.2.1
  unfold maxLen at hu2
  clear hT1 hP1 hps hx1
  go_wp2_with fail
  go_loopg [4, 13] ps.length (fun g s4 s13 wr => ∃ (i : Nat) (v : Value) (vs : List Int), i + g = ps.length ∧ vs.length = i ∧ s13 = .int .i64 i ∧ v = s4 ∧ Hid (Acc w wr 3 v (vs.map (Value.int .i64)) ∧ Txts wr A1 c1 ps ∧ (∀ j, j < i → aN (ps.getD j []) = some (ix vs j)) ∧ ∀ j, j < i → 0 ≤ ix vs j ∧ ix vs j ≤ 99))
  case atStart => exact ⟨0, _, [], by omega, rfl, rfl, rfl, Lib.hid ⟨HAC.out, HT1.out, fun j hj => absurd hj (by omega), fun j hj => absurd hj (by omega)⟩⟩
  case round =>
    obtain ⟨i, v, vs, hi, hvl, rfl, rfl, HW⟩ := hrel
    by_cases hin : i < ps.length
    · obtain ⟨g1, rfl⟩ : ∃ g', gk = g' + 1 := ⟨gk - 1, by omega⟩
      have hin' : (i : Int) < (ps.length : Nat) := by omega
      obtain ⟨-, -, b2, o2, t3, t4⟩ := HW.out.2.1
      obtain ⟨rfl, -⟩ := t3 (by omega)
      have t5 := t4 i hin
      obtain ⟨Q, hQ⟩ : ∃ Q, ps.getD i [] = Q := ⟨_, rfl⟩
      have hmem : Q ∈ ps := by rw [← hQ]; simp [List.getD, hin]
      have hQL := HP1.out Q hmem
      rw [hQ] at t5
      have HQ := Lib.hid hQ
      have HA := Lib.hid (fun W (q : Ext w W) => atoi_any Q W (by omega) (HE.out.ext q))
      have HWX := Lib.hid HW.out.1.1
      unfold tx at t5
      clear t3 t4 hQ hmem
      go_wp2_with fail
      refine (HA.out _ HWX.out).mono ?_
      rintro e w5 ⟨x, u, rfl, hx5, hu⟩
      rcases hu with ⟨rfl, haN⟩ | ⟨haN, t, N, rfl⟩
      · by_cases hxr : 0 ≤ x ∧ x ≤ 99
        · rw [if_pos hxr] at haN
          have HAN := Lib.hid haN
          have n1 : ¬ x < 0 := by omega
          have n2 : ¬ 99 < x := by omega
          have HXR := Lib.hid hxr
          have HPU := Lib.hid (app_run (P := Tryz.prog) (w0 := w) (T := 47) (E := 3) (ty := 47) Tryz.underlying47 infoI rfl (by decide) v (vs.map (Value.int .i64)) ⟨w5.heap.size, 0, none⟩ 1 1 [.int .i64 x] rfl (one_news (cell_new0 w5 _ _) rfl) (map_one [x]) (HW.out.1.on (hx5.trans (Ext.alloc w5 (.cells #[.int .i64 x] 3)))) (by simp; omega))
          have HX5 := Lib.hid (And.intro (HW.out.2.1.ext (hx5.trans (Ext.alloc w5 (.cells #[.int .i64 x] 3)))) (HW.out.1.on (hx5.trans (Ext.alloc w5 (.cells #[.int .i64 x] 3)))).2)
          clear hx5 haN hxr
          go_wp2_with (at_builtin; go_loud (refine wpList_ex rfl _ _ rfl _ (.slice (some ⟨_, 0, none⟩) 1 1) rfl rfl HPU.out ?_; rintro v6 w6 hS6))
          go_roundg g1
          case measure => omega
          case rel =>
            have hst : (vs ++ [x]).map (Value.int .i64) = vs.map (Value.int .i64) ++ [.int .i64 x] := by rw [List.map_append]; rfl
            have hold : ∀ j, j < i → ix (vs ++ [x]) j = ix vs j := fun j hj => by
              simp [ix, List.getD, List.getElem?_append_left (show j < vs.length by omega)]
            have hlast : ix (vs ++ [x]) i = x := by
              unfold ix
              rw [← hvl]; simp [List.getD]
            exact ⟨i + 1, _, vs ++ [x], by omega, by rw [List.length_append, List.length_singleton]; omega, by go_num, rfl, Lib.hid ⟨by rw [hst]; exact hS6.1, HX5.out.1.beside hS6.2.1 HX5.out.2 (by decide), fun j hj => by
              by_cases e : j = i
              · subst e; rw [HQ.out, HAN.out, hlast]
              · rw [hold j (by omega)]; exact HW.out.2.2.1 j (by omega), fun j hj => by
              by_cases e : j = i
              · subst e; rw [hlast]; exact HXR.out
              · rw [hold j (by omega)]; exact HW.out.2.2.2 j (by omega)⟩⟩
        · rw [if_neg hxr] at haN
          have HNN : Hid (nums ps = none) := Lib.hid (nums_none ps i hin (by rw [HQ.out]; exact haN))
          have HXF := Lib.hid (HWX.out.trans hx5)
          clear haN hx5
          by_cases n1 : x < 0
          · clear hxr
            go_wp2_with fail
            go_ret2
            exact ⟨HXF.out, Or.inl ⟨by rw [HPS.out]; exact HNN.out, rfl⟩⟩
          · have n2 : 99 < x := by omega
            clear hxr
            go_wp2_with fail
            go_ret2
            exact ⟨HXF.out, Or.inl ⟨by rw [HPS.out]; exact HNN.out, rfl⟩⟩
      · have HNN : Hid (nums ps = none) := Lib.hid (nums_none ps i hin (by rw [HQ.out]; exact haN))
        have HXF := Lib.hid (HWX.out.trans hx5)
        clear haN hx5
        go_wp2_with fail
        go_ret2
        exact ⟨HXF.out, Or.inl ⟨by rw [HPS.out]; exact HNN.out, rfl⟩⟩
    · have hin' : ¬ (i : Int) < (ps.length : Nat) := by omega
      obtain rfl : i = ps.length := by omega
      have ha := HW.out.1
      obtain ⟨hLf, hLb⟩ := Leaf.of_own ha.2
      obtain ⟨Ar, cr, hvr, hIr⟩ := hLf.ints
      subst hvr
      have HR := Lib.hid (And.intro hLf hLb)
      have HNS := Lib.hid (nums_some ps vs hvl HW.out.2.2.1)
      have HXr := Lib.hid ha.1
      have HNT := Lib.hid (numbersText_any Ar cr vs wr hIr (fun j hj => HW.out.2.2.2 j (by omega)) (by omega))
      obtain ⟨T, hT⟩ : ∃ T, rowT vs = T := ⟨_, rfl⟩
      rw [hT] at HNT
      have HT := Lib.hid hT
      unfold tx at HNT
      have hvl2 : vs.length ≤ 1048577 := by omega
      clear ha hLf hLb HW hIr hT hvl
      have hfin : ∀ b : Bool, b = decide (T = R) → ∀ w', Ext wr w' → Ext w w' ∧ ((nums ps = none ∧ Ending.returned (.tuple #[.slice Ar vs.length cr, .bool b]) = .returned (.tuple #[.slice none 0 0, .bool false])) ∨ (∃ xs v, nums ps = some xs ∧ xs.length ≤ 1048577 ∧ Ending.returned (.tuple #[.slice Ar vs.length cr, .bool b]) = .returned (.tuple #[v, .bool (decide (rowT xs = R))]) ∧ Leaf w' v xs ∧ ∀ g ∈ lb v, w.heap.size ≤ g)) := fun b hb w' q =>
        ⟨HXr.out.trans q, Or.inr ⟨vs, _, HNS.out, hvl2, by rw [hb, HT.out], HR.out.1.keep (fun g hg => q.block (HR.out.1.lt hg)), HR.out.2⟩⟩
      have HF := Lib.hid hfin
      clear hfin
      go_wp2_with fail
      refine HNT.out.mono ?_
      rintro e w5 ⟨rfl, hx5⟩
      by_cases hTR : T = R
      · have hTR' : (T == R) = true := beq_iff_eq.2 hTR
        have HT2 := Lib.hid hTR
        clear hTR
        go_wp2_with fail
        go_ret2
        rw [HPS.out]
        exact HF.out true (by simp [HT2.out]) _ hx5
      · have hTR' : (T == R) = false := beq_eq_false_iff_ne.2 hTR
        have HT2 := Lib.hid hTR
        clear hTR
        go_wp2_with fail
        go_ret2
        rw [HPS.out]
        exact HF.out false (by simp [HT2.out]) _ hx5
end Go.Proofs.YtnalcgcdohlfiaaGreatDoor
namespace Go.Proofs.YtnalcgcdohlfiaaGreatDoor
open Go.RowKit
def cutP (c : UInt8) (L : List UInt8) : List UInt8 := (Lib.cut L [c]).1
def cutR (c : UInt8) (L : List UInt8) : List UInt8 := (Lib.cut L [c]).2.1
def cutH (c : UInt8) (L : List UInt8) : Bool := (Lib.cut L [c]).2.2
theorem cutR_le (c : UInt8) (L : List UInt8) : (cutR c L).length ≤ L.length := by
  unfold cutR Lib.cut
  split
  · simp
  · simp
theorem cutP_le (c : UInt8) (L : List UInt8) : (cutP c L).length ≤ L.length := by
  unfold cutP Lib.cut
  split
  · simp; omega
  · simp
theorem cut_any (c : UInt8) (L : List UInt8) (w : World) (hl : L.length ≤ 1048576) (hm : ∃ m, w.cell? ⟨1, 0, none⟩ = some (.int .i64 m)) :
    Calls Tryz.prog 57 #[.string ⟨L.toArray⟩, .string ⟨#[c]⟩] w fun e w' => e = .returned (.tuple #[tx (cutP c L), tx (cutR c L), .bool (cutH c L)]) ∧ Ext w w' := by
  obtain ⟨m, hm⟩ := hm
  have hsz := tx_size L
  refine (strings_Cut ⟨L.toArray⟩ ⟨#[c]⟩ m w (by omega) hm).mono ?_
  rintro e w' ⟨rfl, n, rfl⟩
  exact ⟨rfl, by apply Ext.drewN'; exact Ext.refl _⟩
/-- the five words -/
def names5 : List ByteArray := (List.range 5).map fun (j : Nat) => ⟨(nameT j).toArray⟩
def kindI (W : List UInt8) : Int := Lib.idxOfS names5 ⟨W.toArray⟩
theorem index_any (W : List UInt8) (w : World) (hn : Names w) :
    Calls Tryz.prog 58 #[.slice (some ⟨0, 0, none⟩) 5 5, .string ⟨W.toArray⟩] w fun e w' => e = .returned (.int .i64 (kindI W)) ∧ w' = w :=
  slices_Index_string 0 0 5 5 names5 ⟨W.toArray⟩ w (by decide) (by decide) (fun j hj => by
    have hj5 : j < 5 := by simpa [names5] using hj
    rw [Nat.zero_add, hn j hj5]
    unfold tx names5
    simp [List.getD, hj5])
/-- the numbers that stand behind the word -/
def cand (L : List UInt8) : Option (List Int) := if cutH 32 L = true then (match nums (spl (cutR 32 L)) with
  | some xs => if rowT xs = cutR 32 L then some xs else none
  | none => none) else some []
/-- the deed of a text -/
def rdI (L : List UInt8) : Option (Int × List Int) := match cand L with
  | none => none
  | some xs => if L ≠ [] ∧ dtx (kindI (cutP 32 L)) xs = L then some (kindI (cutP 32 L), xs) else none
/-- while a deed is read: its block m, the block of the result -/
def RdS (w : World) (m : Nat) (k : Int) (v : Value) (xs : List Int) (wx : World) : Prop :=
  wx.heap[m]? = some (.cells #[.int .i64 k, v] 54 (0, 0)) ∧ wx.heap[w.heap.size]? = some (.cells #[.int .i64 0, .slice none 0 0] 54 (0, 0)) ∧ Leaf wx v xs ∧ (∀ g ∈ lb v, w.heap.size + 1 ≤ g ∧ g ≠ m) ∧ Ext w wx ∧ w.heap.size + 1 ≤ m
theorem RdS.ext {w wx wy : World} {m : Nat} {k : Int} {v : Value} {xs : List Int} (h : RdS w m k v xs wx) (q : Ext wx wy) : RdS w m k v xs wy := by
  obtain ⟨h1, h2, h3, h4, h5, h6⟩ := h
  exact ⟨(q.block (heap_lt h1)).trans h1, (q.block (heap_lt h2)).trans h2, h3.keep (fun g hg => q.block (h3.lt hg)), h4, h5.trans q, h6⟩
set_option maxRecDepth 100000 in
set_option maxHeartbeats 4000000 in
theorem readDeed_any (L : List UInt8) (w : World) (hl : L.length ≤ 1048576) (hE : Env w) :
    Calls Tryz.prog 35 #[.string ⟨L.toArray⟩] w (RdE w (rdI L)) := by
  have HE := Lib.hid hE
  clear hE
  have hsz := tx_size L
  obtain ⟨w0, hw0⟩ : ∃ W, w.alloc (.cells #[.int .i64 0, .slice none 0 0] 54) = W := ⟨_, rfl⟩
  have hx0 : Ext w w0 := by rw [← hw0]; exact Ext.alloc _ _
  have hb := heap_alloc_new w (.cells #[.int .i64 0, .slice none 0 0] 54)
  rw [hw0] at hb
  have HB := Lib.hid (fun W (q : Ext w0 W) => (q.block (heap_lt hb)).trans hb)
  have hs0 : w0.heap.size = w.heap.size + 1 := by rw [← hw0]; simp
  have HC := Lib.hid (fun W (q : Ext w W) => cut_any 32 L W hl (HE.out.ext q).2.1)
  have hRl := cutR_le 32 L
  have hWl := cutP_le 32 L
  have HCA := Lib.hid (show cand L = if cutH 32 L = true then (match nums (spl (cutR 32 L)) with
    | some xs => if rowT xs = cutR 32 L then some xs else none
    | none => none) else some [] from rfl)
  have HRD := Lib.hid (show rdI L = match cand L with
    | none => none
    | some xs => if L ≠ [] ∧ dtx (kindI (cutP 32 L)) xs = L then some (kindI (cutP 32 L), xs) else none from rfl)
  obtain ⟨Wd, hWd⟩ : ∃ x, cutP 32 L = x := ⟨_, rfl⟩
  obtain ⟨R, hR⟩ : ∃ x, cutR 32 L = x := ⟨_, rfl⟩
  obtain ⟨hs, hhs⟩ : ∃ x, cutH 32 L = x := ⟨_, rfl⟩
  obtain ⟨K, hK⟩ : ∃ x, kindI Wd = x := ⟨_, rfl⟩
  rw [hWd, hR, hhs] at HC
  rw [hR] at HCA hRl
  rw [hhs] at HCA
  rw [hWd] at HRD hWl
  rw [hK] at HRD
  have HIX := Lib.hid (fun W (q : Ext w W) => index_any Wd W (HE.out.ext q).1)
  rw [hK] at HIX
  clear hWd hR hhs hK
  unfold tx at HC
  go_enter Tryz.func35, Tryz.ntmps35
  go_wp2_with fail
  clear hw0
  refine (HC.out _ hx0).mono ?_
  rintro e w1 ⟨rfl, hx1⟩
  go_wp2_with fail
  refine (HIX.out _ (hx0.trans hx1)).mono ?_
  rintro e w2 ⟨rfl, hw⟩
  rw [hw]
  clear hw w2
  have hs1 := hx1.size
  have HM := Lib.hid (show RdS w w1.heap.size K (.slice none 0 0) [] (w1.alloc (.cells #[.int .i64 K, .slice none 0 0] 54)) from
    ⟨heap_alloc_new _ _, HB.out _ (hx1.trans (Ext.alloc _ _)), ⟨_, _, rfl, Nat.le_refl _, Nat.zero_le _, fun q => absurd q (by simp)⟩, fun g hg => by simp [lb] at hg, hx0.trans (hx1.trans (Ext.alloc _ _)), by omega⟩)
  have HX01 := Lib.hid (hx0.trans hx1)
  obtain ⟨m, hm⟩ : ∃ m, w1.heap.size = m := ⟨_, rfl⟩
  rw [hm] at HM
  clear hx1 hx0 HB hb
  go_upto_if 20 with fail
  clear hm
  obtain ⟨w2, hw2⟩ : ∃ W, w1.alloc (.cells #[.int .i64 K, .slice none 0 0] 54) = W := ⟨_, rfl⟩
  rw [hw2] at HM ⊢
  clear hw2
  have hfail : rdI L = none → ∀ wx, (∃ v xs, RdS w m K v xs wx) → RdE w (rdI L) (.returned (.tuple #[.agg #[.int .i64 0, .slice none 0 0], .bool false])) ((wx.setCell ⟨w.heap.size, 0, none⟩ (.int .i64 0)).setCell ⟨w.heap.size, 1, none⟩ (.slice none 0 0)) := by
    rintro hr wx ⟨v, xs, h1, h2, h3, h4, h5, h6⟩
    rw [hr]
    exact ⟨_, rfl, ⟨_, _, rfl, Nat.le_refl _, Nat.zero_le _, fun q => absurd q (by simp [rx])⟩, fun g hg => by simp [lb] at hg, (h5.setCell' (p := ⟨w.heap.size, 0, none⟩) (Nat.le_refl _) _).setCell' (p := ⟨w.heap.size, 1, none⟩) (Nat.le_refl _) _⟩
  have HFL := Lib.hid hfail
  clear hfail
  have HRN := Lib.hid (fun W (q : Ext w W) => readNumbers_any R W (by omega) (HE.out.ext q))
  go_cut [] (fun wx => ∃ v xs, Hid (cand L = some xs ∧ xs.length ≤ 1048577) ∧ Hid (RdS w m K v xs wx))
  case first =>
    cases hs with
    | false =>
      go_wp2_with fail
      go_meet
      case rel => exact ⟨_, [], Lib.hid ⟨by rw [HCA.out]; simp, by simp⟩, HM⟩
    | true =>
      go_wp2_with fail
      refine (HRN.out _ HM.out.2.2.2.2.1).mono ?_
      rintro e w5 ⟨hx5, hr⟩
      have HS5 := Lib.hid (HM.out.ext hx5)
      rcases hr with ⟨hn, rfl⟩ | ⟨xs, v, hn, hxl, rfl, hLf, hLb⟩
      · have HN0 : Hid (rdI L = none) := Lib.hid (by rw [HRD.out, HCA.out, if_pos trivial, hn])
        obtain ⟨⟨f1, f2⟩, f1', ⟨f3, f4⟩, f4', f5, f6⟩ := store2 HS5.out.2.1 (.int .i64 0) (.slice none 0 0)
        clear hn hx5
        go_wp2_with fail
        refine bodyPost_ret (v := .tuple #[.agg #[.int .i64 0, .slice none 0 0], .bool false]) (by simp [results, Tryz.results35, go_sem, f5, f6]) rfl ?_
        exact HFL.out HN0.out _ ⟨_, _, HS5.out⟩
      · obtain ⟨A6, c6, rfl, -⟩ := hLf.ints
        by_cases hq : rowT xs = R
        · have HN0 : Hid (cand L = some xs) := Lib.hid (by rw [HCA.out, if_pos trivial, hn]; simp only [if_pos hq])
          have hd : decide (rowT xs = R) = true := decide_eq_true hq
          have hsz2 := HM.out.2.2.2.2.1.size
          have hmlt := heap_lt HM.out.1
          have hb5 := HS5.out.1
          obtain ⟨c0, c1⟩ := two_cells hb5
          have c2 := frozen_cells hb5 1
          have HS6 := Lib.hid (show RdS w m K (.slice A6 xs.length c6) xs (w5.setCell ⟨m, 1, none⟩ (.slice A6 xs.length c6)) from
            ⟨set_1 hb5, set_far HS5.out.2.1 (by have := HM.out.2.2.2.2.2; show w.heap.size ≠ m; omega), hLf.keep (fun g hg => Below.heap_setCell _ _ _ _ (by have := hLb g hg; show g ≠ m; omega)), fun g hg => by have := hLb g hg; have := HM.out.2.2.2.2.2; omega, HS5.out.2.2.2.2.1.setCell' (p := ⟨m, 1, none⟩) (by have := HM.out.2.2.2.2.2; show w.heap.size ≤ m; omega) _, HM.out.2.2.2.2.2⟩)
          rw [hd]
          clear hn hq hd hLf hLb hx5 hb5 hsz2 hmlt
          go_wp2_with fail
          go_meet
          case rel => exact ⟨_, xs, Lib.hid ⟨HN0.out, hxl⟩, HS6⟩
        · have HN0 : Hid (rdI L = none) := Lib.hid (by rw [HRD.out, HCA.out, if_pos trivial, hn]; simp only [if_neg hq])
          have hd : decide (rowT xs = R) = false := decide_eq_false hq
          rw [hd]
          obtain ⟨⟨f1, f2⟩, f1', ⟨f3, f4⟩, f4', f5, f6⟩ := store2 HS5.out.2.1 (.int .i64 0) (.slice none 0 0)
          clear hn hq hd hLf hLb hx5
          go_wp2_with fail
          refine bodyPost_ret (v := .tuple #[.agg #[.int .i64 0, .slice none 0 0], .bool false]) (by simp [results, Tryz.results35, go_sem, f5, f6]) rfl ?_
          exact HFL.out HN0.out _ ⟨_, _, HS5.out⟩
  case rest =>
    obtain ⟨v, xs, HCD, HS⟩ := hcut
    have HRX : Hid (rdI L = if L ≠ [] ∧ dtx K xs = L then some (K, xs) else none) := Lib.hid (by rw [HRD.out, HCD.out.1])
    obtain ⟨A3, c3, rfl, hI3⟩ := HS.out.2.2.1.ints
    have HDT := Lib.hid (deedText_any K A3 c3 xs wc hI3 (HE.out.ext HS.out.2.2.2.2.1).1 (by have := HCD.out.2; omega))
    obtain ⟨z0, z1⟩ := two_cells HS.out.1
    clear hI3
    by_cases hL : L = []
    · have hL' : L.isEmpty = true := by rw [hL]; rfl
      have HN0 : Hid (rdI L = none) := Lib.hid (by rw [HRX.out, if_neg (fun q => q.1 hL)])
      obtain ⟨⟨f1, f2⟩, f1', ⟨f3, f4⟩, f4', f5, f6⟩ := store2 HS.out.2.1 (.int .i64 0) (.slice none 0 0)
      clear hL
      go_wp2_with fail
      refine bodyPost_ret (v := .tuple #[.agg #[.int .i64 0, .slice none 0 0], .bool false]) (by simp [results, Tryz.results35, go_sem, f5, f6]) rfl ?_
      exact HFL.out HN0.out _ ⟨_, _, HS.out⟩
    · have hL' : L.isEmpty = false := by
        cases L with
        | nil => exact absurd rfl hL
        | cons a l => rfl
      obtain ⟨T, hT⟩ : ∃ T, dtx K xs = T := ⟨_, rfl⟩
      rw [hT] at HDT HRX
      unfold tx at HDT
      clear hT
      by_cases hTL : T = L
      · have HN0 : Hid (rdI L = some (K, xs)) := Lib.hid (by rw [HRX.out, if_pos ⟨hL, hTL⟩])
        have hTL' : (T == L) = true := beq_iff_eq.2 hTL
        clear hTL hL
        go_wp2_with fail
        refine HDT.out.mono ?_
        rintro e w5 ⟨rfl, hx5⟩
        have HS5 := Lib.hid (HS.out.ext hx5)
        clear z0 z1 hx5
        obtain ⟨z0, z1⟩ := two_cells HS5.out.1
        obtain ⟨⟨f1, f2⟩, f1', ⟨f3, f4⟩, f4', f5, f6⟩ := store2 HS5.out.2.1 (.int .i64 K) (.slice A3 xs.length c3)
        go_wp2_with fail
        refine bodyPost_ret (v := .tuple #[.agg #[.int .i64 K, .slice A3 xs.length c3], .bool true]) (by simp [results, Tryz.results35, go_sem, f5, f6]) rfl ?_
        show RdE w (rdI L) _ _
        rw [HN0.out]
        obtain ⟨h1, h2, h3, h4, h5, h6⟩ := HS5.out
        exact ⟨_, rfl, h3.keep (fun g hg => (Below.heap_setCell _ _ _ _ (by have := h4 g hg; show g ≠ w.heap.size; omega)).trans (Below.heap_setCell _ _ _ _ (by have := h4 g hg; show g ≠ w.heap.size; omega))), fun g hg => by have := h4 g hg; omega, (h5.setCell' (p := ⟨w.heap.size, 0, none⟩) (Nat.le_refl _) _).setCell' (p := ⟨w.heap.size, 1, none⟩) (Nat.le_refl _) _⟩
      · have HN0 : Hid (rdI L = none) := Lib.hid (by rw [HRX.out, if_neg (fun q => hTL q.2)])
        have hTL' : (T == L) = false := beq_eq_false_iff_ne.2 hTL
        clear hTL hL
        go_wp2_with fail
        refine HDT.out.mono ?_
        rintro e w5 ⟨rfl, hx5⟩
        have HS5 := Lib.hid (HS.out.ext hx5)
        clear z0 z1 hx5
        obtain ⟨⟨f1, f2⟩, f1', ⟨f3, f4⟩, f4', f5, f6⟩ := store2 HS5.out.2.1 (.int .i64 0) (.slice none 0 0)
        go_wp2_with fail
        refine bodyPost_ret (v := .tuple #[.agg #[.int .i64 0, .slice none 0 0], .bool false]) (by simp [results, Tryz.results35, go_sem, f5, f6]) rfl ?_
        exact HFL.out HN0.out _ ⟨_, _, HS5.out⟩
end Go.Proofs.YtnalcgcdohlfiaaGreatDoor
namespace Go.Proofs.YtnalcgcdohlfiaaGreatDoor
open Go.RowKit
theorem pieces_none {sep : UInt8} : ∀ {p : List UInt8}, (∀ b ∈ p, b ≠ sep) → pieces sep p = [p]
  | [], _ => rfl
  | c :: r, h => by
    unfold pieces
    rw [if_neg (h c (List.mem_cons_self)), pieces_none (fun b hb => h b (List.mem_cons_of_mem _ hb))]
    rfl
theorem pieces_app {sep : UInt8} : ∀ {p r : List UInt8}, (∀ b ∈ p, b ≠ sep) → pieces sep (p ++ sep :: r) = p :: pieces sep r
  | [], r, _ => by
    show pieces sep (sep :: r) = _
    simp [pieces]
  | c :: p, r, h => by
    show (if c = sep then [] :: pieces sep (p ++ sep :: r) else addHead [c] (pieces sep (p ++ sep :: r))) = _
    rw [if_neg (h c (List.mem_cons_self)), pieces_app (fun b hb => h b (List.mem_cons_of_mem _ hb))]
    rfl
/-- the digits of a number -/
def dg (x : Int) : List UInt8 := Lib.decDigits x.toNat
theorem rowT_one (x : Int) : rowT [x] = dg x := by unfold rowT dg; exact Lib.join_one _ _
theorem rowT_two (x y : Int) (r : List Int) : rowT (x :: y :: r) = dg x ++ 44 :: rowT (y :: r) := by
  unfold rowT dg
  rw [List.map_cons, List.map_cons, Lib.join_cons, Lib.join_cons]
  simp [Lib.joinTail]
theorem dg_cases {x : Int} (h0 : 0 ≤ x) (h1 : x ≤ 99) : (∃ a, a < 10 ∧ x = (a : Nat) ∧ dg x = [UInt8.ofNat (48 + a)]) ∨ (∃ a b, 1 ≤ a ∧ a < 10 ∧ b < 10 ∧ x = ((10 * a + b : Nat) : Int) ∧ dg x = [UInt8.ofNat (48 + a), UInt8.ofNat (48 + b)]) := by
  by_cases q : x < 10
  · exact Or.inl ⟨x.toNat, by omega, by omega, by unfold dg; exact dig_small (by omega)⟩
  · exact Or.inr ⟨x.toNat / 10, x.toNat % 10, by omega, by omega, by omega, by omega, by unfold dg; exact dig_two (by omega) (by omega)⟩
theorem dec1 : ∀ a, a < 10 → aN [UInt8.ofNat (48 + a)] = some ((a : Nat) : Int) ∧ dgt [UInt8.ofNat (48 + a)] = (a : Nat) ∧ UInt8.ofNat (48 + a) ≠ 32 ∧ UInt8.ofNat (48 + a) ≠ 44 := by decide +kernel
theorem dec2 : ∀ a, a < 10 → 1 ≤ a → ∀ b, b < 10 → aN [UInt8.ofNat (48 + a), UInt8.ofNat (48 + b)] = some ((10 * a + b : Nat) : Int) ∧ dgt [UInt8.ofNat (48 + a), UInt8.ofNat (48 + b)] = ((10 * a + b : Nat) : Int) := by decide +kernel
theorem dg_all {x : Int} (h0 : 0 ≤ x) (h1 : x ≤ 99) : aN (dg x) = some x ∧ dgt (dg x) = x ∧ (∀ b ∈ dg x, b ≠ 32) ∧ ∀ b ∈ dg x, b ≠ 44 := by
  rcases dg_cases h0 h1 with ⟨a, ha, rfl, hd⟩ | ⟨a, b, ha1, ha, hb, rfl, hd⟩
  · rw [hd]
    obtain ⟨e1, e2, e3, e4⟩ := dec1 a ha
    exact ⟨e1, e2, fun b hb => by rw [List.mem_singleton.1 hb]; exact e3, fun b hb => by rw [List.mem_singleton.1 hb]; exact e4⟩
  · rw [hd]
    obtain ⟨e1, e2⟩ := dec2 a ha ha1 b hb
    obtain ⟨-, -, e3, e4⟩ := dec1 a ha
    obtain ⟨-, -, e5, e6⟩ := dec1 b hb
    exact ⟨e1, e2, fun c hc => by
      rcases List.mem_cons.1 hc with e | e
      · rw [e]; exact e3
      · rw [List.mem_singleton.1 e]; exact e5, fun c hc => by
      rcases List.mem_cons.1 hc with e | e
      · rw [e]; exact e4
      · rw [List.mem_singleton.1 e]; exact e6⟩
/-- numbers 0..99, as a property of the members -/
theorem allN_mem {xs : List Int} (h : allN xs = true) : ∀ x ∈ xs, 0 ≤ x ∧ x ≤ 99 := by
  intro x hx
  obtain ⟨i, hi, rfl⟩ := List.getElem_of_mem hx
  have := allN_cons.1 h i hi
  rw [ix_of hi] at this
  exact this
theorem row_plain : ∀ {xs : List Int}, (∀ x ∈ xs, 0 ≤ x ∧ x ≤ 99) → xs ≠ [] → pieces 44 (rowT xs) = xs.map dg ∧ ∀ b ∈ rowT xs, b ≠ 32
  | [], _, h => absurd rfl h
  | [x], h, _ => by
    obtain ⟨h0, h1⟩ := h x (List.mem_cons_self)
    obtain ⟨e1, e2, e3, e4⟩ := dg_all h0 h1
    rw [rowT_one]
    exact ⟨pieces_none e4, e3⟩
  | x :: y :: r, h, _ => by
    obtain ⟨h0, h1⟩ := h x (List.mem_cons_self)
    obtain ⟨e1, e2, e3, e4⟩ := dg_all h0 h1
    obtain ⟨f1, f2⟩ := row_plain (xs := y :: r) (fun z hz => h z (List.mem_cons_of_mem _ hz)) (List.cons_ne_nil _ _)
    rw [rowT_two]
    refine ⟨by rw [pieces_app e4, f1]; rfl, fun b hb => ?_⟩
    rcases List.mem_append.1 hb with q | q
    · exact e3 b q
    · rcases List.mem_cons.1 q with e | e
      · rw [e]; decide
      · exact f2 b e
theorem name_plain {k : Int} (h : 0 ≤ k ∧ k ≤ 4) : (∀ b ∈ nameT k, b ≠ 32) ∧ nameT k ≠ [] ∧ kindI (nameT k) = k := by
  have : k = 0 ∨ k = 1 ∨ k = 2 ∨ k = 3 ∨ k = 4 := by omega
  rcases this with rfl | rfl | rfl | rfl | rfl <;> decide +kernel
theorem name_inj {k j : Int} (h : 0 ≤ k ∧ k ≤ 4) (hj : 0 ≤ j ∧ j ≤ 4) (e : nameT k = nameT j) : k = j := by
  rw [← (name_plain h).2.2, ← (name_plain hj).2.2, e]
/-- what a text of a deed tells -/
theorem dtx_parts {k : Int} {xs : List Int} {L : List UInt8} (h : dtx k xs = L) (hL : L ≠ []) : dtB k xs = true ∧ (0 ≤ k ∧ k ≤ 4) ∧ (∀ x ∈ xs, 0 ≤ x ∧ x ≤ 99) ∧ ((xs = [] ∧ L = nameT k) ∨ (xs ≠ [] ∧ L = nameT k ++ 32 :: rowT xs)) := by
  by_cases hb : dtB k xs = true
  · have hb2 := hb
    unfold dtB at hb2
    rw [Bool.and_eq_true] at hb2
    have hk : 0 ≤ k ∧ k ≤ 4 := by
      have h2 := hb2.2
      simp only [Bool.or_eq_true, Bool.and_eq_true, decide_eq_true_eq] at h2
      omega
    refine ⟨hb, hk, allN_mem hb2.1, ?_⟩
    unfold dtx at h
    rw [if_pos hb] at h
    by_cases h0 : xs.length = 0
    · rw [if_pos h0] at h
      exact Or.inl ⟨List.eq_nil_of_length_eq_zero h0, h.symm⟩
    · rw [if_neg h0] at h
      exact Or.inr ⟨fun q => h0 (by rw [q]; rfl), by rw [← h]; simp⟩
  · unfold dtx at h
    rw [if_neg hb] at h
    exact absurd h.symm hL
theorem dtx_inj {k j : Int} {xs : List Int} {L : List UInt8} (h : dtx k xs = L) (h' : dtx j xs = L) (hL : L ≠ []) : k = j := by
  obtain ⟨-, hk, -, h1⟩ := dtx_parts h hL
  obtain ⟨-, hj, -, h2⟩ := dtx_parts h' hL
  rcases h1 with ⟨e, h1⟩ | ⟨e, h1⟩ <;> rcases h2 with ⟨e', h2⟩ | ⟨e', h2⟩
  · exact name_inj hk hj (h1.symm.trans h2)
  · exact absurd e e'
  · exact absurd e' e
  · exact name_inj hk hj (List.append_cancel_right (h1.symm.trans h2))
theorem rlist_good {k : Int} {xs : List Int} {L : List UInt8} (h : dtx k xs = L) (hL : L ≠ []) : rlist L = xs := by
  obtain ⟨-, hk, hx, h1⟩ := dtx_parts h hL
  obtain ⟨n1, n2, -⟩ := name_plain hk
  unfold rlist
  rcases h1 with ⟨rfl, rfl⟩ | ⟨hne, rfl⟩
  · rw [pieces_none n1]; rfl
  · obtain ⟨r1, r2⟩ := row_plain hx hne
    rw [pieces_app n1, pieces_none r2]
    show (pieces 44 (rowT xs)).map dgt = xs
    rw [r1, List.map_map]
    conv => rhs; rw [← List.map_id xs]
    apply List.map_congr_left
    intro x hxm
    exact (dg_all (hx x hxm).1 (hx x hxm).2).2.1
theorem rfirst_sound {L : List UInt8} {xs : List Int} {p : Int × List Int} : ∀ g k, rfirst L xs g k = some p → L ≠ [] ∧ dtx p.1 p.2 = L
  | 0, _, h => by simp [rfirst] at h
  | g + 1, k, h => by
    unfold rfirst at h
    split at h
    · rename_i q
      injection h with h
      rw [← h]; exact q
    · exact rfirst_sound g (k + 1) h
theorem rfirst_complete {L : List UInt8} {xs : List Int} {k : Int} (h : dtx k xs = L) (hL : L ≠ []) : ∀ g j : Nat, j + g = 5 → (j : Int) ≤ k → rfirst L xs g j = some (k, xs)
  | 0, j, hj, hjk => by
    obtain ⟨-, hk, -, -⟩ := dtx_parts h hL
    omega
  | g + 1, j, hj, hjk => by
    unfold rfirst
    by_cases q : dtx j xs = L
    · rw [if_pos ⟨hL, q⟩, dtx_inj q h hL]
    · rw [if_neg (fun z => q z.2)]
      refine rfirst_complete h hL g (j + 1) (by omega) ?_
      by_cases e : (j : Int) = k
      · rw [← e] at h; exact absurd h q
      · omega
theorem rdS_sound {L : List UInt8} {p : Int × List Int} (h : rdS L = some p) : L ≠ [] ∧ dtx p.1 p.2 = L := rfirst_sound _ _ h
theorem rdS_complete {L : List UInt8} {k : Int} {xs : List Int} (h : dtx k xs = L) (hL : L ≠ []) : rdS L = some (k, xs) := by
  unfold rdS
  rw [rlist_good h hL]
  obtain ⟨-, hk, -, -⟩ := dtx_parts h hL
  exact rfirst_complete h hL 5 0 rfl (by omega)
theorem index_miss {c : UInt8} : ∀ {p : List UInt8}, (∀ b ∈ p, b ≠ c) → Lib.index p [c] = -1
  | [], _ => rfl
  | a :: p, h => by
    have ih := index_miss (p := p) (fun b hb => h b (List.mem_cons_of_mem _ hb))
    have ha : (c == a) = false := beq_eq_false_iff_ne.2 (fun q => h a (List.mem_cons_self) q.symm)
    simp [Lib.index, ih, ha, List.isPrefixOf]
theorem index_hit {c : UInt8} {r : List UInt8} : ∀ {p : List UInt8}, (∀ b ∈ p, b ≠ c) → Lib.index (p ++ c :: r) [c] = (p.length : Int)
  | [], _ => by simp [Lib.index, List.isPrefixOf]
  | a :: p, h => by
    have ih := index_hit (p := p) (r := r) (fun b hb => h b (List.mem_cons_of_mem _ hb))
    have ha : (c == a) = false := beq_eq_false_iff_ne.2 (fun q => h a (List.mem_cons_self) q.symm)
    show Lib.index (a :: (p ++ c :: r)) [c] = _
    have h1 : ¬ (p.length : Int) = -1 := by omega
    simp [Lib.index, ih, ha, List.isPrefixOf, h1]
theorem cut_miss {c : UInt8} {p : List UInt8} (h : ∀ b ∈ p, b ≠ c) : cutP c p = p ∧ cutR c p = [] ∧ cutH c p = false := by
  unfold cutP cutR cutH Lib.cut
  rw [index_miss h, if_neg (by omega)]
  exact ⟨rfl, rfl, rfl⟩
theorem cut_hit {c : UInt8} {p r : List UInt8} (h : ∀ b ∈ p, b ≠ c) : cutP c (p ++ c :: r) = p ∧ cutR c (p ++ c :: r) = r ∧ cutH c (p ++ c :: r) = true := by
  unfold cutP cutR cutH Lib.cut
  rw [index_hit h, if_pos (by omega)]
  refine ⟨by simp, ?_, rfl⟩
  show (p ++ c :: r).drop (p.length + 1) = r
  rw [show p ++ c :: r = (p ++ [c]) ++ r by simp, List.drop_append_of_le_length (by simp), List.drop_of_length_le (by simp)]
  rfl
theorem ext_app (p r : List UInt8) (c : UInt8) : (⟨(p ++ c :: r).toArray⟩ : ByteArray).extract (p.length + 1) (⟨(p ++ c :: r).toArray⟩ : ByteArray).size = ⟨r.toArray⟩ := by
  rw [tx_size, ByteArray.extract_mk]
  congr 2
  rw [show p ++ c :: r = (p ++ [c]) ++ r by simp, List.drop_append_of_le_length (by simp), List.drop_of_length_le (by simp)]
  simp
  exact List.take_of_length_le (by omega)
theorem ext_zero (p r : List UInt8) : (⟨(p ++ r).toArray⟩ : ByteArray).extract 0 (p.length + 0) = ⟨p.toArray⟩ := by
  rw [ByteArray.extract_mk]
  congr 2
  simp
theorem spl_none {p : List UInt8} (h : ∀ b ∈ p, b ≠ 44) : spl p = [p] := by
  have hi : Lib.indexB (⟨p.toArray⟩ : ByteArray) ⟨#[44]⟩ = -1 := index_miss h
  unfold spl
  rw [Lib.countB_miss _ _ hi, Lib.splitB_zero]
  rfl
theorem spl_app {p r : List UInt8} (h : ∀ b ∈ p, b ≠ 44) : spl (p ++ 44 :: r) = p :: spl r := by
  have hi : Lib.indexB (⟨(p ++ 44 :: r).toArray⟩ : ByteArray) ⟨#[44]⟩ = (p.length : Nat) := index_hit h
  unfold spl
  rw [Lib.countB_hit _ _ _ (by decide) hi]
  have h1 : (⟨#[44]⟩ : ByteArray).size = 1 := rfl
  rw [h1, ext_app, Nat.add_comm 1, Lib.splitB_hit _ _ _ _ _ hi, h1, ext_app, ext_zero]
  rfl
theorem spl_row : ∀ {xs : List Int}, (∀ x ∈ xs, 0 ≤ x ∧ x ≤ 99) → xs ≠ [] → spl (rowT xs) = xs.map dg
  | [], _, h => absurd rfl h
  | [x], h, _ => by
    obtain ⟨h0, h1⟩ := h x (List.mem_cons_self)
    rw [rowT_one, spl_none (dg_all h0 h1).2.2.2]
    rfl
  | x :: y :: r, h, _ => by
    obtain ⟨h0, h1⟩ := h x (List.mem_cons_self)
    rw [rowT_two, spl_app (dg_all h0 h1).2.2.2, spl_row (xs := y :: r) (fun z hz => h z (List.mem_cons_of_mem _ hz)) (List.cons_ne_nil _ _)]
    rfl
theorem nums_dg : ∀ {xs : List Int}, (∀ x ∈ xs, 0 ≤ x ∧ x ≤ 99) → nums (xs.map dg) = some xs
  | [], _ => rfl
  | x :: r, h => by
    obtain ⟨h0, h1⟩ := h x (List.mem_cons_self)
    have ih := nums_dg (xs := r) (fun z hz => h z (List.mem_cons_of_mem _ hz))
    show nums (dg x :: r.map dg) = _
    simp only [nums]
    rw [ih, (dg_all h0 h1).1]
theorem cand_good {k : Int} {xs : List Int} {L : List UInt8} (h : dtx k xs = L) (hL : L ≠ []) : cand L = some xs ∧ kindI (cutP 32 L) = k := by
  obtain ⟨-, hk, hx, h1⟩ := dtx_parts h hL
  obtain ⟨n1, n2, n3⟩ := name_plain hk
  rcases h1 with ⟨rfl, rfl⟩ | ⟨hne, rfl⟩
  · obtain ⟨c1, c2, c3⟩ := cut_miss n1
    exact ⟨by unfold cand; rw [c3]; simp, by rw [c1]; exact n3⟩
  · obtain ⟨c1, c2, c3⟩ := cut_hit (r := rowT xs) n1
    refine ⟨?_, by rw [c1]; exact n3⟩
    unfold cand
    rw [c3, if_pos rfl, c2, spl_row hx hne, nums_dg hx]
    simp only [if_true]
theorem rdI_sound {L : List UInt8} {p : Int × List Int} (h : rdI L = some p) : L ≠ [] ∧ dtx p.1 p.2 = L := by
  unfold rdI at h
  split at h
  · cases h
  · split at h
    · rename_i q
      injection h with h
      rw [← h]; exact q
    · cases h
theorem rdI_complete {L : List UInt8} {k : Int} {xs : List Int} (h : dtx k xs = L) (hL : L ≠ []) : rdI L = some (k, xs) := by
  obtain ⟨h1, h2⟩ := cand_good h hL
  unfold rdI
  rw [h1, h2]
  exact if_pos ⟨hL, h⟩
/-- BOTH READ ALIKE -/
theorem rd_same (L : List UInt8) : rdI L = rdS L := by
  cases hs : rdS L with
  | some p =>
    obtain ⟨h1, h2⟩ := rdS_sound hs
    exact rdI_complete h2 h1
  | none =>
    cases hi : rdI L with
    | none => rfl
    | some p =>
      obtain ⟨h1, h2⟩ := rdI_sound hi
      rw [rdS_complete h2 h1] at hs
      cases hs
end Go.Proofs.YtnalcgcdohlfiaaGreatDoor
