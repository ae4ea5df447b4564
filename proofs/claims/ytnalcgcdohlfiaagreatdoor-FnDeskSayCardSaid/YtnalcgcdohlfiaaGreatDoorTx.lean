/- What is proved: texts of numbers and of rows of numbers: spec.l1In, spec.l1Number (0..99), spec.l11Row, impl.numbersText. Conditions: those of each contract. -/
import Derived.Test.YtnalcgcdohlfiaaGreatDoorPa
import Derived.Test.YtnalcgcdohlfiaaGreatDoorShelf
import Derived.Lib.Join
import Derived.Lib.ItoaNum
import Derived.Laws.Concat
import Derived.Laws.IdiomStrings
import Derived.Deep.RegionLaw
namespace Go.Proofs.YtnalcgcdohlfiaaGreatDoor
open Go.RowKit
/-- a text of these bytes -/
def tx (l : List UInt8) : Value := .string ⟨l.toArray⟩
theorem tx_add (a b : List UInt8) : ((⟨a.toArray⟩ : ByteArray) ++ ⟨b.toArray⟩) = ⟨(a ++ b).toArray⟩ := by
  apply ByteArray.ext
  rw [ByteArray.data_append]
  simp
theorem tx_app (a b : UInt8) : (⟨#[a]⟩ : ByteArray) ++ ⟨#[b]⟩ = ⟨#[a, b]⟩ := tx_add [a] [b]
theorem dig_small {n : Nat} (h : n < 10) : Lib.decDigits n = [UInt8.ofNat (48 + n)] := by rw [Lib.decDigits, dif_pos h]
theorem conv_one (W : World) (m : Nat) (hm : m < 256) (x : Int) (hx : x = m) : (convert 22 9 (.slice (some ⟨W.heap.size, 0, none⟩) 1 1)).run Tryz.prog (W.alloc (.cells #[.int .u8 x] 5)) = .ok (.string ⟨[UInt8.ofNat m].toArray⟩) (W.alloc (.cells #[.int .u8 x] 5)) := by
  subst hx
  refine run_convert_bytes_back _ 22 9 5 ⟨W.heap.size, 0, none⟩ 1 [UInt8.ofNat m] Tryz.underlying22 Tryz.underlying5 Tryz.underlying9 fun j hj => ?_
  have e : j = 0 := by simp at hj; exact hj
  subst e
  show World.cell? _ ⟨W.heap.size, 0 + 0, none⟩ = _
  rw [cell_cells (heap_alloc_new W _)]
  simp
  omega
set_option maxRecDepth 100000 in
set_option maxHeartbeats 1000000 in
theorem l1Number_one (n : Nat) (h : n < 10) (w : World) : Calls Tryz.prog 29 #[.int .i64 n] w fun e w' => e = .returned (tx (Lib.decDigits n)) ∧ Ext w w' := by
  have h0 : ¬ (n : Int) < 0 := by omega
  have h10 : (n : Int) < 10 := by omega
  have hd := dig_small h
  have hcv := conv_one w (48 + n) (by omega) (48 + (n : Int)) (by omega)
  rw [hd]
  clear hd
  go_enter Tryz.func29, Tryz.ntmps29
  go_wp2_with fail
  go_ret
  exact ⟨rfl, Ext.alloc _ _⟩
theorem dig_two {n : Nat} (h : 10 ≤ n) (h2 : n < 100) : Lib.decDigits n = [UInt8.ofNat (48 + n / 10), UInt8.ofNat (48 + n % 10)] := by
  rw [Lib.decDigits, dif_neg (by omega), dig_small (by omega)]; rfl
theorem conv_at (W : World) (b m : Nat) (hm : m < 256) (h : W.cell? ⟨b, 0, none⟩ = some (.int .u8 ((m : Nat) : Int))) : (convert 22 9 (.slice (some ⟨b, 0, none⟩) 1 1)).run Tryz.prog W = .ok (.string ⟨[UInt8.ofNat m].toArray⟩) W := by
  refine run_convert_bytes_back _ 22 9 5 ⟨b, 0, none⟩ 1 [UInt8.ofNat m] Tryz.underlying22 Tryz.underlying5 Tryz.underlying9 fun j hj => ?_
  have e : j = 0 := by simp at hj; exact hj
  subst e
  show World.cell? _ ⟨b, 0 + 0, none⟩ = _
  rw [h]
  simp
  omega
set_option maxRecDepth 100000 in
set_option maxHeartbeats 2000000 in
theorem l1Number_two (n : Nat) (h : 10 ≤ n) (h2 : n < 100) (w : World) : Calls Tryz.prog 29 #[.int .i64 n] w fun e w' => e = .returned (tx (Lib.decDigits n)) ∧ Ext w w' := by
  have h0 : ¬ (n : Int) < 0 := by omega
  have h10 : ¬ (n : Int) < 10 := by omega
  have hq : (n : Int).tdiv 10 = ((n / 10 : Nat) : Int) := by rw [Int.tdiv_eq_ediv_of_nonneg (by omega)]; omega
  have hr : (n : Int).tmod 10 = ((n % 10 : Nat) : Int) := by rw [Int.tmod_eq_emod_of_nonneg (by omega)]; omega
  have HC0 := fun W => l1Number_one (n / 10) (by omega) W
  rw [dig_small (show n / 10 < 10 by omega)] at HC0
  rw [dig_two h h2]
  obtain ⟨a, ha⟩ : ∃ a, n / 10 = a := ⟨_, rfl⟩
  obtain ⟨b, hb⟩ : ∃ a, n % 10 = a := ⟨_, rfl⟩
  have ha9 : a < 10 := by omega
  have hb9 : b < 10 := by omega
  rw [ha] at hq HC0 ⊢
  rw [hb] at hr ⊢
  have HC := Lib.hid HC0
  have HCV := Lib.hid (fun W => conv_one W (48 + b) (by omega) (48 + ((b : Nat) : Int)) (by omega))
  have wa : IntKind.i64.wrap (a : Int) = a := IntWalk.i64_in _ ⟨by omega, by omega⟩
  have wb : IntKind.i64.wrap (b : Int) = b := IntWalk.i64_in _ ⟨by omega, by omega⟩
  have wc : IntKind.i64.wrap (48 + (b : Int)) = 48 + b := IntWalk.i64_in _ ⟨by omega, by omega⟩
  have wd : IntKind.u8.wrap (48 + (b : Int)) = 48 + b := by rw [IntKind.wrap_u8]; omega
  have hcv1 : (convert 22 9 (.slice (some ⟨w.heap.size, 0, none⟩) 1 1)).run Tryz.prog ((w.alloc (.cells #[.int .u8 (48 + ((b : Nat) : Int))] 5)).drew) = .ok (.string ⟨[UInt8.ofNat (48 + b)].toArray⟩) ((w.alloc (.cells #[.int .u8 (48 + ((b : Nat) : Int))] 5)).drew) :=
    conv_at _ _ (48 + b) (by omega) (by show World.cell? (w.alloc _) _ = _; rw [cell_cells (heap_alloc_new w _)]; simp)
  clear ha hb HC0
  go_enter Tryz.func29, Tryz.ntmps29
  go_wp2_with fail
  go_region_law (go_simp; go_at_call 29; refine (HC.out _).mono ?_; rintro e w5 ⟨rfl, hx5⟩; unfold tx; have hcv5 := HCV.out w5; (try have hcv6 := conv_at w5 w.heap.size (48 + b) (by omega) (by rw [hx5.cell (show World.cell? _ _ = some _ from (show World.cell? (w.alloc (.cells #[.int .u8 (48 + ((b : Nat) : Int))] 5)) ⟨w.heap.size, 0, none⟩ = _ from by rw [cell_cells (heap_alloc_new w _)]; simp; rfl))]; simp)))
  all_goals
    go_wp2
    go_simp
    go_ret
    exact ⟨by show Ending.returned (.string (_ ++ _)) = _; rw [tx_app]; rfl, by repeat (first | exact Ext.trans (by repeat (first | exact Ext.refl _ | apply Ext.drew' | apply Ext.alloc')) hx5 | apply Ext.alloc' | apply Ext.drew')⟩
/-- a number of at most two digits -/
theorem l1Number_any (n : Nat) (h : n < 100) (w : World) : Calls Tryz.prog 29 #[.int .i64 n] w fun e w' => e = .returned (tx (Lib.decDigits n)) ∧ Ext w w' := by
  by_cases q : n < 10
  · exact l1Number_one n q w
  · exact l1Number_two n (by omega) h w
theorem dig_len {n : Nat} (h : n < 100) : (Lib.decDigits n).length ≤ 2 := by
  by_cases q : n < 10
  · rw [dig_small q]; simp
  · rw [dig_two (by omega) h]; simp
/-- numbers with commas between them -/
def rowT (xs : List Int) : List UInt8 := Lib.join (xs.map fun x => Lib.decDigits x.toNat) [44]
def rowU (xs : List Int) : Nat → List UInt8
  | 0 => []
  | i + 1 => (if 0 < i then rowU xs i ++ [44] else rowU xs i) ++ Lib.decDigits (ix xs i).toNat
theorem rowU_all (xs : List Int) : rowU xs xs.length = rowT xs := by
  have key : ∀ n, n ≤ xs.length → rowU xs n = Lib.join ((xs.take n).map fun x => Lib.decDigits x.toNat) [44] := by
    intro n
    induction n with
    | zero => intro _; rfl
    | succ n ih =>
      intro h
      have e : xs.take (n + 1) = xs.take n ++ [ix xs n] := by rw [List.take_succ_eq_append_getElem (by omega), ix_of (by omega)]
      show (if 0 < n then rowU xs n ++ [44] else rowU xs n) ++ _ = _
      rw [ih (by omega), e, List.map_append]
      cases n with
      | zero => simp [Lib.join, List.intercalate]
      | succ m =>
        obtain ⟨y, ys, hy⟩ : ∃ y ys, (xs.take (m + 1)).map (fun x => Lib.decDigits x.toNat) = y :: ys := by
          cases hq : (xs.take (m + 1)).map (fun x => Lib.decDigits x.toNat) with
          | nil =>
            have e3 : ((xs.take (m + 1)).map (fun x => Lib.decDigits x.toNat)).length = m + 1 := by rw [List.length_map, List.length_take]; omega
            rw [hq] at e3
            simp at e3
          | cons y ys => exact ⟨y, ys, rfl⟩
        rw [hy, if_pos (by omega)]
        show Lib.join (y :: ys) [44] ++ [44] ++ _ = Lib.join (y :: ys ++ [_]) [44]
        rw [List.cons_append, Lib.join_cons, Lib.join_cons]
        simp [Lib.joinTail]
  have := key xs.length (Nat.le_refl _)
  rw [List.take_length] at this
  exact this
theorem rowU_len {xs : List Int} (h : ∀ i, i < xs.length → 0 ≤ ix xs i ∧ ix xs i ≤ 99) : ∀ n, n ≤ xs.length → (rowU xs n).length ≤ 3 * n := by
  intro n
  induction n with
  | zero => intro _; simp [rowU]
  | succ n ih =>
    intro hn
    have := ih (by omega)
    have hx := h n (by omega)
    have := dig_len (n := (ix xs n).toNat) (by omega)
    show ((if 0 < n then rowU xs n ++ [44] else rowU xs n) ++ _).length ≤ _
    rw [List.length_append]
    split <;> (try rw [List.length_append, List.length_singleton]) <;> omega
set_option maxHeartbeats 2000000 in
theorem l11Row_any (A : Option Addr) (c : Nat) (xs : List Int) (w : World) (h : Ints w A c xs) (hx : ∀ i, i < xs.length → 0 ≤ ix xs i ∧ ix xs i ≤ 99) (hl : xs.length ≤ 2000000) :
    Calls Tryz.prog 43 #[.slice A xs.length c] w fun e w' => e = .returned (tx (rowT xs)) ∧ Ext w w' := by
  obtain ⟨h1, h2, b, o, hA, hc⟩ := h
  unfold maxLen at h2
  have HX := Lib.hid hx
  have HC := Lib.hid (fun W (q : Ext w W) i (hi : i < xs.length) => q.cell (hc i hi))
  have HL := Lib.hid (rowU_len hx)
  clear hx hc
  go_enter Tryz.func43, Tryz.ntmps43
  go_wp2
  go_loopg [4, 3] xs.length (fun g s4 s3 wr => ∃ (i : Nat), i + g = xs.length ∧ s4 = .int .i64 i ∧ s3 = tx (rowU xs i) ∧ Hid (Ext w wr))
  case atStart => exact ⟨0, by omega, rfl, rfl, Lib.hid (Ext.refl _)⟩
  case round =>
    obtain ⟨i, hi, rfl, rfl, HW⟩ := hrel
    by_cases hin : i < xs.length
    · obtain ⟨g1, rfl⟩ : ∃ g', gk = g' + 1 := ⟨gk - 1, by omega⟩
      have hin' : (i : Int) < (xs.length : Nat) := by omega
      obtain rfl := hA (by omega)
      have c1 := HC.out wr HW.out i hin
      obtain ⟨x0, x1⟩ := HX.out i hin
      obtain ⟨m, hm⟩ : ∃ m : Nat, ix xs i = (m : Int) := ⟨(ix xs i).toNat, by omega⟩
      have hst : rowU xs (i + 1) = (if 0 < i then rowU xs i ++ [44] else rowU xs i) ++ Lib.decDigits m := by
        show _ ++ Lib.decDigits (ix xs i).toNat = _
        rw [hm]; rfl
      have HST := Lib.hid hst
      rw [hm] at c1 x1
      have HN := Lib.hid (l1Number_any m (by omega) wr)
      have hrl := HL.out i (by omega)
      have hdl := dig_len (n := m) (by omega)
      obtain ⟨R, hR⟩ : ∃ r, rowU xs i = r := ⟨_, rfl⟩
      obtain ⟨Q, hQ⟩ : ∃ r, Lib.decDigits m = r := ⟨_, rfl⟩
      rw [hR] at HST hrl ⊢
      rw [hQ] at HST HN hdl
      clear hst hm hR hQ x0 x1
      unfold tx
      by_cases h0 : 0 < i
      · have h0' : (0 : Int) < (i : Nat) := by omega
        have hst := HST.out
        rw [if_pos h0] at hst
        obtain ⟨R2, hR2⟩ : ∃ r, R ++ [44] = r := ⟨_, rfl⟩
        obtain ⟨R3, hR3⟩ : ∃ r, R2 ++ Q = r := ⟨_, rfl⟩
        have hc1 : ((⟨R.toArray⟩ : ByteArray) ++ ⟨#[44]⟩) = ⟨R2.toArray⟩ := by rw [← hR2]; exact tx_add R [44]
        have hc2 : ((⟨R2.toArray⟩ : ByteArray) ++ ⟨Q.toArray⟩) = ⟨R3.toArray⟩ := by rw [← hR3]; exact tx_add R2 Q
        have hl2 : R2.length = R.length + 1 := by rw [← hR2, List.length_append]; rfl
        rw [hR2, hR3] at hst
        have HS := Lib.hid hst
        have hl3 : R2.length ≤ 8000000 := by omega
        clear hR2 hR3 hst hl2 HST
        go_wp2_with fail
        refine HN.out.mono ?_
        rintro e w5 ⟨rfl, hx5⟩
        unfold tx
        go_wp2
        go_roundg g1
        case measure => omega
        case rel => exact ⟨i + 1, by omega, by go_num, by rw [HS.out]; rfl, Lib.hid (HW.out.trans hx5)⟩
      · have h0' : ¬ (0 : Int) < (i : Nat) := by omega
        have hst := HST.out
        rw [if_neg h0] at hst
        obtain ⟨R3, hR3⟩ : ∃ r, R ++ Q = r := ⟨_, rfl⟩
        have hc2 : ((⟨R.toArray⟩ : ByteArray) ++ ⟨Q.toArray⟩) = ⟨R3.toArray⟩ := by rw [← hR3]; exact tx_add R Q
        rw [hR3] at hst
        have HS := Lib.hid hst
        clear hR3 hst HST
        go_wp2_with fail
        refine HN.out.mono ?_
        rintro e w5 ⟨rfl, hx5⟩
        unfold tx
        go_wp2
        go_roundg g1
        case measure => omega
        case rel => exact ⟨i + 1, by omega, by go_num, by rw [HS.out]; rfl, Lib.hid (HW.out.trans hx5)⟩
    · have hin' : ¬ (i : Int) < (xs.length : Nat) := by omega
      obtain rfl : i = xs.length := by omega
      have HE := Lib.hid (rowU_all xs)
      clear hA
      go_wp2
      go_ret
      exact ⟨by rw [← HE.out]; rfl, HW.out⟩
/-- what has been collected: texts of one's own -/
theorem infoS : (Tryz.prog.info? 9).map (fun i => (i.zero, i.size, i.bytes)) = some (some (.string ByteArray.empty), 1, 16) := by kernel_rfl
set_option maxRecDepth 100000 in
set_option maxHeartbeats 2000000 in
theorem numbersText_any (A : Option Addr) (c : Nat) (xs : List Int) (w : World) (h : Ints w A c xs) (hx : ∀ i, i < xs.length → 0 ≤ ix xs i ∧ ix xs i ≤ 99) (hl : xs.length ≤ 2000000) :
    Calls Tryz.prog 66 #[.slice A xs.length c] w fun e w' => e = .returned (tx (rowT xs)) ∧ Ext w w' := by
  obtain ⟨h1, h2, b, o, hA, hc⟩ := h
  unfold maxLen at h2
  have HX := Lib.hid hx
  have HC := Lib.hid (fun W (q : Ext w W) i (hi : i < xs.length) => q.cell (hc i hi))
  clear hx hc
  go_enter Tryz.func66, Tryz.ntmps66
  go_wp2
  go_loopg [9, 3] xs.length (fun g s9 s3 wr => ∃ (i : Nat) (v : Value), i + g = xs.length ∧ s9 = .int .i64 i ∧ v = s3 ∧ Hid (Acc w wr 9 v ((xs.take i).map fun x => tx (Lib.decDigits x.toNat))))
  case atStart => exact ⟨0, _, by omega, rfl, rfl, Lib.hid (Acc.empty _ (Ext.refl _))⟩
  case round =>
    obtain ⟨i, v, hi, rfl, rfl, HW⟩ := hrel
    by_cases hin : i < xs.length
    · obtain ⟨g1, rfl⟩ : ∃ g', gk = g' + 1 := ⟨gk - 1, by omega⟩
      have hin' : (i : Int) < (xs.length : Nat) := by omega
      obtain rfl := hA (by omega)
      have c1 := HC.out wr HW.out.x i hin
      obtain ⟨x0, x1⟩ := HX.out i hin
      obtain ⟨m, hm⟩ : ∃ m : Nat, ix xs i = (m : Int) := ⟨(ix xs i).toNat, by omega⟩
      have hst : (xs.take (i + 1)).map (fun x => tx (Lib.decDigits x.toNat)) = (xs.take i).map (fun x => tx (Lib.decDigits x.toNat)) ++ [tx (Lib.decDigits m)] := by
        rw [List.take_succ_eq_append_getElem hin, List.map_append, ← ix_of hin, hm]; rfl
      have HST := Lib.hid hst
      rw [hm] at c1 x1
      have HN := Lib.hid (fun W => strconv_Itoa_small m (by omega) W)
      clear hst hm x0
      go_wp2_with fail
      refine (HN.out _).mono ?_
      rintro e w5 ⟨rfl, rfl⟩
      have HPU := Lib.hid (app_run (P := Tryz.prog) (T := 27) (E := 9) (ty := 27) Tryz.underlying27 infoS rfl (by decide) v _ ⟨w5.heap.size, 0, none⟩ 1 1 [tx (Lib.decDigits m)] rfl (one_news (cell_new0 w5 _ _) rfl) (fun u hu => by simp at hu; rw [hu]; rfl) (HW.out.on (Ext.alloc w5 (.cells #[tx (Lib.decDigits m)] 9))) (by simp; omega))
      obtain ⟨Q, hQ⟩ : ∃ r, Lib.decDigits m = r := ⟨_, rfl⟩
      rw [hQ] at HPU HST ⊢
      clear hQ HW
      unfold tx at HPU
      go_wp2_with (at_builtin; go_loud (refine wpList_ex rfl _ _ rfl _ (.slice (some ⟨_, 0, none⟩) 1 1) rfl rfl HPU.out ?_; rintro v6 w6 hS6))
      go_roundg g1
      case measure => omega
      case rel => exact ⟨i + 1, _, by omega, by go_num, rfl, Lib.hid (by rw [HST.out]; exact hS6.1)⟩
    · have hin' : ¬ (i : Int) < (xs.length : Nat) := by omega
      obtain rfl : i = xs.length := by omega
      clear hA
      have ha := HW.out
      rw [List.take_length] at ha
      have hlen : (xs.map fun x => tx (Lib.decDigits x.toNat)).length = xs.length := by simp
      have hjoin : (Lib.join ((xs.map fun x => (⟨(Lib.decDigits x.toNat).toArray⟩ : ByteArray)).map (·.data.toList)) [44]) = rowT xs := by
        unfold rowT
        rw [List.map_map]
        rfl
      have hrl := rowU_len HX.out xs.length (Nat.le_refl _)
      rw [rowU_all] at hrl
      rcases ha.2.2 with ⟨rfl, h0⟩ | ⟨g, cap, cur, rfl, hb, hg, hcap, hm, hs, ht⟩
      · rw [hlen] at h0
        have e0 : xs = [] := List.eq_nil_of_length_eq_zero h0
        have HJ := Lib.hid (strings_Join_none none 0 ⟨#[44]⟩ wr)
        have hr0 : rowT xs = [] := by rw [e0]; rfl
        have HR0 := Lib.hid hr0
        have HEX := Lib.hid HW.out.x
        clear hlen hjoin hrl e0 hr0 h0 ha HX HW
        go_wp2_with fail
        refine HJ.out.mono ?_
        rintro e w5 ⟨rfl, rfl⟩
        go_wp2
        go_ret
        exact ⟨by rw [HR0.out]; rfl, HEX.out⟩
      · rw [hlen] at hcap ht
        have hcells : ∀ (j : Nat) x, (xs.map fun x => (⟨(Lib.decDigits x.toNat).toArray⟩ : ByteArray))[j]? = some x → wr.cell? ⟨g, 0 + j, none⟩ = some (.string x) := fun j x hj => by
          have hjl : j < xs.length := by
            have := (List.getElem?_eq_some_iff.1 hj).1
            simpa using this
          rw [cell_cells hg, Nat.zero_add]
          have e : (cur.toList.take (xs.length * 1))[j]? = (xs.map fun x => tx (Lib.decDigits x.toNat))[j]? := by rw [ht]
          rw [List.getElem?_take, if_pos (by omega)] at e
          rw [← Array.getElem?_toList, e]
          simp [hjl] at hj ⊢
          rw [← hj]; rfl
        have HJ0 := strings_Join g 0 cap (xs.map fun x => (⟨(Lib.decDigits x.toNat).toArray⟩ : ByteArray)) ⟨#[44]⟩ wr hcells (heap_lt hg) (by simp; omega) (by simpa using hcap) (by
          show (Lib.join _ [44]).length ≤ _
          rw [hjoin]; omega)
        rw [show (Lib.join ((xs.map fun x => (⟨(Lib.decDigits x.toNat).toArray⟩ : ByteArray)).map (·.data.toList)) ((⟨#[44]⟩ : ByteArray).data.toList)) = rowT xs from hjoin, List.length_map] at HJ0
        have HJ := Lib.hid HJ0
        have HEX := Lib.hid HW.out.x
        rw [hlen]
        clear hlen hjoin hrl hcells HJ0 ha HW HX hb hg hs ht
        go_wp2_with fail
        refine HJ.out.mono ?_
        rintro e w5 ⟨rfl, hx5⟩
        go_wp2
        go_ret
        exact ⟨rfl, HEX.out.trans hx5⟩
end Go.Proofs.YtnalcgcdohlfiaaGreatDoor
