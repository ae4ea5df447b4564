/- What is proved: contracts and plain laws for what the later texts lean on (Less, First, FirO, Pf, Wp, Wo, WoS, Blw, Made, Plm). Conditions: those of each. -/
import Derived.Test.YtnalcgcdohlfiaaGreatDoorPb
import Derived.Test.YtnalcgcdohlfiaaGreatDoorPa
import Derived.Sort.OwnSortedInts
import Derived.Test.YtnalcgcdohlfiaaGreatDoorPc
import Derived.StillTailTactics
import Derived.Deep.RegionHeld3
import Derived.Test.YtnalcgcdohlfiaaGreatDoorPd
namespace Go.Proofs.YtnalcgcdohlfiaaGreatDoor
open Go.RowKit
def lsI (xs ys : List Int) : Nat → Nat → Option Bool
  | 0, _ => none
  | g + 1, j => if ix xs j ≠ ix ys j then some (decide (ix xs j < ix ys j)) else lsI xs ys g (j + 1)
def lsQ (X Y : List (List Int)) (n : Nat) : Nat → Nat → Bool
  | 0, _ => false
  | g + 1, k => match lsI (row X k) (row Y k) n 0 with
    | some b => b
    | none => lsQ X Y n g (k + 1)
theorem lsI_cmp {xs ys : List Int} (hl : xs.length = ys.length) : ∀ g j, j + g = xs.length → (lsI xs ys g j = none ∧ cmpR xs ys g j = 0) ∨ (lsI xs ys g j = some true ∧ cmpR xs ys g j = -1) ∨ (lsI xs ys g j = some false ∧ cmpR xs ys g j = 1)
  | 0, j, _ => .inl ⟨rfl, by unfold cmpR; rw [if_neg (by omega)]⟩
  | g + 1, j, hj => by
    unfold lsI cmpR
    rw [if_neg (show ¬ ys.length ≤ j by omega)]
    by_cases q : ix xs j = ix ys j
    · rw [if_neg (fun h => h q), if_neg (fun h => h (cmpZ_zero.2 q))]
      exact lsI_cmp hl g (j + 1) (by omega)
    · rw [if_pos q, if_pos (fun h => q (cmpZ_zero.1 h))]
      unfold cmpZ
      by_cases c : ix xs j < ix ys j
      · rw [decide_eq_true c, if_pos c]
        exact .inr (.inl ⟨rfl, rfl⟩)
      · rw [decide_eq_false c, if_neg c, if_pos (by omega)]
        exact .inr (.inr ⟨rfl, rfl⟩)
theorem lsQ_cmp {X Y : List (List Int)} {n : Nat} (hX : X.length = n) (hY : Y.length = n) (h1 : ∀ i, i < n → (row X i).length = n) (h2 : ∀ i, i < n → (row Y i).length = n) : ∀ g k, k + g = n → lsQ X Y n g k = decide (cmpQ X Y g k < 0)
  | 0, k, _ => by
    unfold lsQ cmpQ
    rw [if_neg (by omega)]
    rfl
  | g + 1, k, hk => by
    unfold lsQ cmpQ
    rw [if_neg (show ¬ Y.length ≤ k by omega)]
    have e1 := h1 k (by omega)
    have e2 := h2 k (by omega)
    have hc : cmpI (row X k) (row Y k) = cmpR (row X k) (row Y k) n 0 := by unfold cmpI; rw [e1]
    rcases lsI_cmp (xs := row X k) (ys := row Y k) (by omega) n 0 (by omega) with ⟨a, b⟩ | ⟨a, b⟩ | ⟨a, b⟩
    · rw [a, hc, b, if_neg (fun h => h rfl)]
      exact lsQ_cmp hX hY h1 h2 g (k + 1) (by omega)
    · rw [a, hc, b, if_pos (by decide)]
      rfl
    · rw [a, hc, b, if_pos (by decide)]
      rfl
set_option maxRecDepth 100000 in
set_option maxHeartbeats 4000000 in
theorem l7Orders_any (n : Nat) (w : World) (hn : n ≤ 5) : Calls Tryz.prog 110 #[.int .i64 n] w (FreshM w (ordK n n)) := by
  have HF := Lib.hid (fun k (hk : k ≤ n) => ordK_facts n k hn hk)
  have HS := Lib.hid (fun k => (show ordK n (k + 1) = nxi n (ordK n k) (ordK n k).length from rfl))
  have HSi := Lib.hid (fun (L : List (List Int)) i => (show nxi n L (i + 1) = nxx (row L i) (nxi n L i) n from rfl))
  have HSx := Lib.hid (fun (l : List Int) acc x => (show nxx l acc (x + 1) = if (x : Int) ∈ l then nxx l acc x else nxx l acc x ++ [l ++ [(x : Int)]] from rfl))
  have H0 := Lib.hid (show ordK n 0 = [[]] from rfl)
  go_enter Tryz.func110, Tryz.ntmps110
  go_wp2
  go_loopg [4, 3] n (fun g s4 s3 wr => ∃ (k : Nat), k + g = n ∧ s4 = .int .i64 k ∧ Hid (AccR w wr s3 (ordK n k)))
  case atStart => exact ⟨0, by omega, rfl, Lib.hid (by rw [H0.out]; exact AccR.one (Ext.refl _))⟩
  case round =>
    obtain ⟨k, hk, rfl, HR⟩ := hrel
    by_cases hin : k < n
    · obtain ⟨gk1, rfl⟩ : ∃ g', gk = g' + 1 := ⟨gk - 1, by omega⟩
      have hin' : (k : Int) < (n : Nat) := by omega
      obtain ⟨A, c, hv, hM⟩ := HR.out.mat
      subst hv
      obtain ⟨f1, f2, f3⟩ := HF.out k (by omega)
      have HSk := Lib.hid (HS.out k)
      have hxq := HR.out.x
      obtain ⟨L, hL⟩ : ∃ L, ordK n k = L := ⟨_, rfl⟩
      rw [hL] at hM f1 f2 f3 HSk HR
      have HXW := Lib.hid hxq
      obtain ⟨h1, h2, -⟩ := id hM
      obtain ⟨b, o, R, rc, rb, ro, hA, hrow, hlen, hR, hcell, hints⟩ := hM.parts
      obtain rfl := hA (by omega)
      have HROW := Lib.hid hrow
      have HIN := Lib.hid hints
      have HLEN := Lib.hid f3
      have HRR := Lib.hid hR
      have HCE := Lib.hid hcell
      unfold maxLen at h2
      obtain ⟨wq, hwq⟩ : ∃ wq : World, wq = wr := ⟨_, rfl⟩
      subst hwq
      rw [hL]
      clear hrow hints f3 hlen hR hcell hA hL hM hxq HR
      obtain ⟨M, hMl⟩ : ∃ M, L.length = M := ⟨_, rfl⟩
      rw [hMl] at f1 f2 h1 HROW HIN HSk HLEN HRR HCE
      rw [hMl]
      go_wp2
      go_loopg [6, 5] M (fun g s6 s5 wi => ∃ (i : Nat), i + g = M ∧ s6 = .int .i64 i ∧ Hid (AccR wq wi s5 (nxi n L i)))
      case atStart => exact ⟨0, by omega, rfl, Lib.hid (AccR.empty (Ext.refl _))⟩
      case round =>
        obtain ⟨i, hi, rfl, HRi⟩ := hrel
        by_cases hini : i < M
        · obtain ⟨gi1, rfl⟩ : ∃ g', gk = g' + 1 := ⟨gk - 1, by omega⟩
          have hini' : (i : Int) < (M : Nat) := by omega
          have HROWi := Lib.hid (HROW.out i hini)
          have HIi := Lib.hid (HIN.out i hini)
          have hl5 : (row L i).length ≤ 5 := by have := (HLEN.out i hini).1; omega
          have HSi1 := Lib.hid (HSi.out L i)
          have bd := nxi_len n L hn i
          have HSxi := Lib.hid (fun x => HSx.out (row L i) (nxi n L i) x)
          have bx := Lib.hid (nxx_len (row L i) (nxi n L i))
          have HRRi := Lib.hid (HRR.out i hini)
          have HCEi := Lib.hid (HCE.out i hini)
          have HTI := Lib.hid (fun j (hj : j < (row L i).length) => take_ix hj)
          have HTF := Lib.hid (show (row L i).take (row L i).length = row L i from List.take_of_length_le (Nat.le_refl _))
          have HAT := Lib.hid (fun j => (show at2 L i j = ix (row L i) j from rfl))
          obtain ⟨r, hr⟩ : ∃ r, row L i = r := ⟨_, rfl⟩
          obtain ⟨acc, hacc⟩ : ∃ r, nxi n L i = r := ⟨_, rfl⟩
          rw [hr] at HROWi HIi hl5 HSi1 HSxi bx HRRi HCEi HTI HTF HAT
          rw [hacc] at HRi HSi1 bd HSxi bx
          obtain ⟨p, hp⟩ : ∃ p, r.length = p := ⟨_, rfl⟩
          have HP := Lib.hid hp
          rw [hp] at HROWi hl5 HRRi HCEi HTI HTF
          clear hr hacc hp
          go_wp2
          go_loopg [7, 5] n (fun g s7 s5 wx => ∃ (x : Nat), x + g = n ∧ s7 = .int .i64 x ∧ Hid (AccR wq wx s5 (nxx r acc x)))
          case atStart => exact ⟨0, by omega, rfl, HRi⟩
          case round =>
            obtain ⟨x, hx, rfl, HRx⟩ := hrel
            have hxx := HRx.out.x
            by_cases hinx : x < n
            · obtain ⟨gx1, rfl⟩ : ∃ g', gk = g' + 1 := ⟨gk - 1, by omega⟩
              have hinx' : (x : Int) < (n : Nat) := by omega
              have c1 := hxx.cell HROWi.out
              obtain ⟨wp, hwp⟩ : ∃ wp : World, wp = wr := ⟨_, rfl⟩
              subst hwp
              go_wp2
              go_loopg [9, 8] p (fun g s9 s8 wj => ∃ (j : Nat) (t : Bool) (m : Nat), j + g = p ∧ s9 = .int .i64 j ∧ s8 = .bool t ∧ wj = wp.drewN m ∧ Hid (t = decide ((x : Int) ∈ r.take j)))
              case atStart => exact ⟨0, false, 0, by omega, rfl, rfl, rfl, Lib.hid (by simp)⟩
              case round =>
                obtain ⟨j, t, m, hj, rfl, rfl, rfl, HT⟩ := hrel
                have c2 := (hxx.drewN' m).cell HROWi.out
                by_cases hinj : j < p
                · obtain ⟨gj1, rfl⟩ : ∃ g', gk = g' + 1 := ⟨gk - 1, by omega⟩
                  have hinj' : (j : Int) < (p : Nat) := by omega
                  have eR := HRRi.out (by omega)
                  rw [eR] at c1 c2
                  have c3 := (hxx.drewN' m).cell (HCEi.out j hinj)
                  rw [HAT.out] at c3
                  have HTj := Lib.hid (HTI.out j hinj)
                  obtain ⟨X, hX⟩ : ∃ X, ix r j = X := ⟨_, rfl⟩
                  rw [hX] at c3 HTj
                  clear hX
                  cases t with
                  | true =>
                    have HN := Lib.hid (show true = decide ((x : Int) ∈ r.take (j + 1)) by
                      rw [HTj.out]
                      refine (decide_eq_true (List.mem_append.2 (.inl ?_))).symm
                      exact of_decide_eq_true HT.out.symm)
                    clear HTj HT
                    go_wp2
                    go_roundg gj1
                    case measure => omega
                    case rel => exact ⟨j + 1, true, _, by omega, by go_num, rfl, by first | rfl | exact drewN_add _ _ _, HN⟩
                  | false =>
                    have hno : ¬ (x : Int) ∈ r.take j := of_decide_eq_false HT.out.symm
                    by_cases q : X = (x : Int)
                    · have HN := Lib.hid (show true = decide ((x : Int) ∈ r.take (j + 1)) by
                        rw [HTj.out]
                        exact (decide_eq_true (List.mem_append.2 (.inr (by simp [q])))).symm)
                      have q' : (X == (x : Int)) = true := beq_iff_eq.2 q
                      clear HTj HT hno q
                      go_wp2
                      go_roundg gj1
                      case measure => omega
                      case rel => exact ⟨j + 1, true, _, by omega, by go_num, by first | rfl | simp [q'], by first | rfl | exact drewN_add _ _ _, HN⟩
                    · have HN := Lib.hid (show false = decide ((x : Int) ∈ r.take (j + 1)) by
                        rw [HTj.out]
                        refine (decide_eq_false fun h => ?_).symm
                        rcases List.mem_append.1 h with h | h
                        · exact hno h
                        · simp at h; exact q h.symm)
                      have q' : (X == (x : Int)) = false := beq_eq_false_iff_ne.2 q
                      clear HTj HT hno q
                      go_wp2
                      go_roundg gj1
                      case measure => omega
                      case rel => exact ⟨j + 1, false, _, by omega, by go_num, by first | rfl | simp [q'], by first | rfl | exact drewN_add _ _ _, HN⟩
                · have hinj' : ¬ (j : Int) < (p : Nat) := by omega
                  obtain rfl : gk = 0 := by omega
                  obtain rfl : j = p := by omega
                  rw [HTF.out] at HT
                  by_cases hm : (x : Int) ∈ r
                  · obtain rfl : t = true := HT.out.trans (decide_eq_true hm)
                    have HN := Lib.hid (show nxx r acc (x + 1) = nxx r acc x by rw [HSxi.out, if_pos hm])
                    clear hm HT
                    go_wp2
                    go_roundg gx1
                    case measure => omega
                    case rel => exact ⟨x + 1, by omega, by go_num, Lib.hid (by rw [HN.out]; exact HRx.out.on (Ext.drewN _ _))⟩
                  · obtain rfl : t = false := HT.out.trans (decide_eq_false hm)
                    have HN := Lib.hid (show nxx r acc (x + 1) = nxx r acc x ++ [r ++ [(x : Int)]] by rw [HSxi.out, if_neg hm])
                    have bxx := bx.out x
                    clear hm HT
                    obtain ⟨acx, hacx⟩ : ∃ q, nxx r acc x = q := ⟨_, rfl⟩
                    rw [hacx] at HN bxx HRx
                    clear hacx
                    have HRX := Lib.hid (HRx.out.on (Ext.drewN _ m))
                    obtain ⟨wz, hwz⟩ : ∃ wz, wp.drewN m = wz := ⟨_, rfl⟩
                    have hxz : Ext wq wz := by rw [← hwz]; exact hxx.drewN' _
                    rw [hwz] at HRX c2
                    rw [hwz]
                    have c4 := (hxz.alloc' (.cells #[] 3)).cell HROWi.out
                    have HPP := HP.out
                    have HIp := Lib.hid (show ∃ q, Ints wq (R i) (rc i) q ∧ q = r from ⟨r, HIi.out, rfl⟩)
                    clear HRx hwz hxx c1
                    subst HPP
                    go_wp2_with (first
                      | (at_builtin; (fail_if_success (have hq := hA1)); refine wpList_ex rfl _ _ rfl (.slice (some ⟨_, 0, none⟩) 0 0) _ rfl rfl (appI_run (w0 := wz) (ys := []) rfl Tryz.underlying47 infoI (accNew (Ext.alloc _ _) (heap_alloc_new _ _) (Nat.le_refl _)) (HIi.out.ext (hxz.alloc' _)) (by simp; omega)) ?_; rintro v1 W1 ⟨hA1, hB1, hS1⟩; rw [List.nil_append] at hA1)
                      | (at_builtin; (fail_if_success (have hq := hA2)); refine wpList_ex rfl _ _ rfl v1 (.slice (some ⟨_, 0, none⟩) 1 1) rfl rfl (app_run (w0 := wz) Tryz.underlying47 infoI rfl (by decide) v1 (r.map (Value.int .i64)) ⟨_, 0, none⟩ 1 1 [.int .i64 x] rfl (one_news (cell_new0 _ _ _) rfl) (map_one [(x : Int)]) (hA1.on (Ext.alloc _ _)) (by simp; omega)) ?_; rintro v2 W2 ⟨hA2', hB2, hS2⟩; have hA2 : Acc wz W2 3 v2 ((r ++ [(x : Int)]).map (Value.int .i64)) := (by rw [List.map_append]; exact hA2'); obtain ⟨Ar, cr, hv2, -⟩ := (Leaf.of_own hA2.2).1.ints; obtain ⟨K, hK⟩ : ∃ K, (r ++ [(x : Int)]).length = K := ⟨_, rfl⟩; rw [hK] at hv2; subst hv2; clear hK hA2')
                      | (at_builtin; refine wpList_ex rfl _ _ rfl _ (.slice (some ⟨_, 0, none⟩) 1 1) rfl rfl (accR_run (u := .slice Ar K cr) rfl Tryz.underlying23 infoR ⟨_, 0, none⟩ 1 rfl HRX.out hA2 (Ext.alloc _ _) (cell_new0 _ _ _) (by omega)) ?_; rintro v3 W3 hR3))
                    go_roundg gx1
                    case measure => omega
                    case rel => exact ⟨x + 1, by omega, by go_num, Lib.hid (by rw [HN.out]; exact hR3)⟩
            · have hinx' : ¬ (x : Int) < (n : Nat) := by omega
              obtain rfl : gk = 0 := by omega
              obtain rfl : x = n := by omega
              go_wp2
              go_roundg gi1
              case measure => omega
              case rel => exact ⟨i + 1, by omega, by go_num, Lib.hid (by rw [HSi1.out]; exact HRx.out)⟩
        · have hini' : ¬ (i : Int) < (M : Nat) := by omega
          obtain rfl : gk = 0 := by omega
          obtain rfl : i = M := by omega
          go_wp2
          go_roundg gk1
          case measure => omega
          case rel => exact ⟨k + 1, by omega, by go_num, Lib.hid (by rw [HSk.out]; exact HRi.out.low HXW.out)⟩
    · have hin' : ¬ (k : Int) < (n : Nat) := by omega
      obtain rfl : gk = 0 := by omega
      obtain rfl : k = n := by omega
      have HFR := Lib.hid HR.out.fresh
      clear HR
      go_wp2
      go_ret
      exact HFR.out
end Go.Proofs.YtnalcgcdohlfiaaGreatDoor
namespace Go.Proofs.YtnalcgcdohlfiaaGreatDoor
open Go.RowKit
def samQ (X Y : List (List Int)) (n : Nat) : Nat → Nat → Bool := allR (fun k => allR (fun j => decide (at2 X k j = at2 Y k j)) n 0)
theorem samQ_eq {X Y : List (List Int)} {n : Nat} (hX : X.length = n) (hY : Y.length = n) (h1 : ∀ i, i < n → (row X i).length = n) (h2 : ∀ i, i < n → (row Y i).length = n) : samQ X Y n n 0 = decide (X = Y) := by
  rw [Bool.eq_iff_iff, decide_eq_true_iff]
  unfold samQ
  rw [allR_all]
  constructor
  · intro h
    refine mat_ext (by omega) (fun i hi => by rw [h1 i (by omega), h2 i (by omega)]) fun i hi k hk => ?_
    have := (allR_all _ _).1 (h i (by omega)) k (by rw [h1 i (by omega)] at hk; exact hk)
    exact of_decide_eq_true this
  · rintro rfl i hi
    exact (allR_all _ _).2 fun k hk => decide_eq_true rfl
set_option maxHeartbeats 4000000 in
theorem l7Same_any (A B : Option Addr) (c d n : Nat) (X Y : List (List Int)) (w : World) (hX : Mat w A c X) (hY : Mat w B d Y) (eX : X.length = n) (eY : Y.length = n) (h1 : Sq X) (h2 : Sq Y) :
    Calls Tryz.prog 52 #[.slice A n c, .slice B n d] w fun e w' => e = .returned (.bool (samQ X Y n n 0)) ∧ ∃ m, w' = w.drewN m := by
  obtain ⟨bk, o, rc, rb, ro, hA, hrow, -, hcell, -⟩ := hX.square h1
  obtain ⟨bk2, o2, rc2, rb2, ro2, hB, hrow2, -, hcell2, -⟩ := hY.square h2
  have l1 := hX.1
  have l2 := hX.2.1
  have l3 := hY.1
  have l4 := hY.2.1
  unfold maxLen at l2 l4
  rw [eX] at hA hrow hcell l1
  rw [eY] at hB hrow2 hcell2 l3
  have HR := Lib.hid hrow
  have HC := Lib.hid hcell
  have HR2 := Lib.hid hrow2
  have HC2 := Lib.hid hcell2
  clear hrow hcell hrow2 hcell2 hX hY eX eY h1 h2
  have HS0 := Lib.hid (fun g k => show samQ X Y n (g + 1) k = (allR (fun j => decide (at2 X k j = at2 Y k j)) n 0 && samQ X Y n g (k + 1)) from rfl)
  have HL0 := Lib.hid (fun g k => show lsQ X Y n (g + 1) k = match lsI (row X k) (row Y k) n 0 with | some b => b | none => lsQ X Y n g (k + 1) from rfl)
  have HS1 := Lib.hid (fun g k j => show allR (fun j => decide (at2 X k j = at2 Y k j)) (g + 1) j = (decide (at2 X k j = at2 Y k j) && allR (fun j => decide (at2 X k j = at2 Y k j)) g (j + 1)) from rfl)
  have HL1 := Lib.hid (fun g k j => show lsI (row X k) (row Y k) (g + 1) j = if at2 X k j ≠ at2 Y k j then some (decide (at2 X k j < at2 Y k j)) else lsI (row X k) (row Y k) g (j + 1) from rfl)
  go_enter Tryz.func52, Tryz.ntmps52
  go_wp2
  go_loopg [5] (n) (fun g s5 wr => ∃ (k m : Nat), k + g = n ∧ s5 = .int .i64 k ∧ wr = w.drewN m ∧ Hid (samQ X Y n g k = samQ X Y n n 0))
  case atStart => exact ⟨0, _, by omega, rfl, by first | rfl | exact drewN_0 _ | exact drewN_add _ _ _, Lib.hid (rfl)⟩
  case round =>
    obtain ⟨k, mk, hk, rfl, rfl, Hk⟩ := hrel
    by_cases hink : k < n
    · obtain ⟨gk, rfl⟩ : ∃ g', gk = g' + 1 := ⟨gk - 1, by omega⟩
      have hink' : (k : Int) < (n : Nat) := by omega
      obtain rfl := hA (by omega)
      obtain rfl := hB (by omega)
      go_wp2
      go_loopg [6] (n) (fun g s6 wr => ∃ (j m : Nat), j + g = n ∧ s6 = .int .i64 j ∧ wr = w.drewN m ∧ Hid (allR (fun j => decide (at2 X k j = at2 Y k j)) g j = allR (fun j => decide (at2 X k j = at2 Y k j)) n 0))
      case atStart => exact ⟨0, _, by omega, rfl, by first | rfl | exact drewN_0 _ | exact drewN_add _ _ _, Lib.hid (rfl)⟩
      case round =>
        obtain ⟨j, mj, hj, rfl, rfl, Hj⟩ := hrel
        by_cases hinj : j < n
        · obtain ⟨gj, rfl⟩ : ∃ g', gk = g' + 1 := ⟨gk - 1, by omega⟩
          have hinj' : (j : Int) < (n : Nat) := by omega
          have r1 := HR.out k hink
          have r2 := HR2.out k hink
          have c1 := HC.out k hink j hinj
          have c2 := HC2.out k hink j hinj
          have Hst := Lib.hid (HS1.out gj k j)
          obtain ⟨x, hx⟩ : ∃ x, at2 X k j = x := ⟨_, rfl⟩
          obtain ⟨y, hy⟩ : ∃ x, at2 Y k j = x := ⟨_, rfl⟩
          rw [hx] at c1 Hst
          rw [hy] at c2 Hst
          clear hx hy
          by_cases q : x = y
          · have HN := Lib.hid (show allR (fun j => decide (at2 X k j = at2 Y k j)) (gj + 1) j = allR (fun j => decide (at2 X k j = at2 Y k j)) gj (j + 1) by rw [Hst.out, decide_eq_true q, Bool.true_and])
            have q' : (x != y) = false := by simp [q]
            clear q
            go_wp2
            go_quiet (fail)
            go_wp2
            go_roundg gj
            case measure => omega
            case rel => exact ⟨j + 1, _, by omega, by go_num, by first | rfl | exact drewN_0 _ | exact drewN_add _ _ _, Lib.hid (by rw [← HN.out]; exact Hj.out)⟩
          · have q' : (x != y) = true := by simp [q]
            have HN := Lib.hid (show samQ X Y n n 0 = false by rw [← Hk.out, HS0.out, ← Hj.out, Hst.out, decide_eq_false q]; rfl)
            clear q
            go_wp2
            go_quiet (fail)
            go_wp2
            go_ret
            exact ⟨ret_bool HN.out.symm, _, by first | rfl | exact drewN_add _ _ _ | rw [drewN_add, drewN_add]⟩
        · have hinj' : ¬ (j : Int) < (n : Nat) := by omega
          obtain rfl : gk = 0 := by omega
          have HT := Lib.hid (show allR (fun j => decide (at2 X k j = at2 Y k j)) n 0 = true by rw [← Hj.out]; rfl)
          go_wp2
          go_roundg gk
          case measure => omega
          case rel => exact ⟨k + 1, _, by omega, by go_num, by first | rfl | exact drewN_0 _ | exact drewN_add _ _ _, Lib.hid (by rw [← Hk.out, HS0.out, HT.out, Bool.true_and])⟩
    · have hink' : ¬ (k : Int) < (n : Nat) := by omega
      obtain rfl : gk = 0 := by omega
      go_wp2
      go_ret
      exact ⟨ret_bool (by rw [← Hk.out]; rfl), _, rfl⟩
set_option maxHeartbeats 4000000 in
theorem l7Less_any (A B : Option Addr) (c d n : Nat) (X Y : List (List Int)) (w : World) (hX : Mat w A c X) (hY : Mat w B d Y) (eX : X.length = n) (eY : Y.length = n) (h1 : Sq X) (h2 : Sq Y) :
    Calls Tryz.prog 112 #[.slice A n c, .slice B n d] w fun e w' => e = .returned (.bool (lsQ X Y n n 0)) ∧ ∃ m, w' = w.drewN m := by
  obtain ⟨bk, o, rc, rb, ro, hA, hrow, -, hcell, -⟩ := hX.square h1
  obtain ⟨bk2, o2, rc2, rb2, ro2, hB, hrow2, -, hcell2, -⟩ := hY.square h2
  have l1 := hX.1
  have l2 := hX.2.1
  have l3 := hY.1
  have l4 := hY.2.1
  unfold maxLen at l2 l4
  rw [eX] at hA hrow hcell l1
  rw [eY] at hB hrow2 hcell2 l3
  have HR := Lib.hid hrow
  have HC := Lib.hid hcell
  have HR2 := Lib.hid hrow2
  have HC2 := Lib.hid hcell2
  clear hrow hcell hrow2 hcell2 hX hY eX eY h1 h2
  have HS0 := Lib.hid (fun g k => show samQ X Y n (g + 1) k = (allR (fun j => decide (at2 X k j = at2 Y k j)) n 0 && samQ X Y n g (k + 1)) from rfl)
  have HL0 := Lib.hid (fun g k => show lsQ X Y n (g + 1) k = match lsI (row X k) (row Y k) n 0 with | some b => b | none => lsQ X Y n g (k + 1) from rfl)
  have HS1 := Lib.hid (fun g k j => show allR (fun j => decide (at2 X k j = at2 Y k j)) (g + 1) j = (decide (at2 X k j = at2 Y k j) && allR (fun j => decide (at2 X k j = at2 Y k j)) g (j + 1)) from rfl)
  have HL1 := Lib.hid (fun g k j => show lsI (row X k) (row Y k) (g + 1) j = if at2 X k j ≠ at2 Y k j then some (decide (at2 X k j < at2 Y k j)) else lsI (row X k) (row Y k) g (j + 1) from rfl)
  go_enter Tryz.func112, Tryz.ntmps112
  go_wp2
  go_loopg [5] (n) (fun g s5 wr => ∃ (k m : Nat), k + g = n ∧ s5 = .int .i64 k ∧ wr = w.drewN m ∧ Hid (lsQ X Y n g k = lsQ X Y n n 0))
  case atStart => exact ⟨0, _, by omega, rfl, by first | rfl | exact drewN_0 _ | exact drewN_add _ _ _, Lib.hid (rfl)⟩
  case round =>
    obtain ⟨k, mk, hk, rfl, rfl, Hk⟩ := hrel
    by_cases hink : k < n
    · obtain ⟨gk, rfl⟩ : ∃ g', gk = g' + 1 := ⟨gk - 1, by omega⟩
      have hink' : (k : Int) < (n : Nat) := by omega
      obtain rfl := hA (by omega)
      obtain rfl := hB (by omega)
      go_wp2
      go_loopg [6] (n) (fun g s6 wr => ∃ (j m : Nat), j + g = n ∧ s6 = .int .i64 j ∧ wr = w.drewN m ∧ Hid (lsI (row X k) (row Y k) g j = lsI (row X k) (row Y k) n 0))
      case atStart => exact ⟨0, _, by omega, rfl, by first | rfl | exact drewN_0 _ | exact drewN_add _ _ _, Lib.hid (rfl)⟩
      case round =>
        obtain ⟨j, mj, hj, rfl, rfl, Hj⟩ := hrel
        by_cases hinj : j < n
        · obtain ⟨gj, rfl⟩ : ∃ g', gk = g' + 1 := ⟨gk - 1, by omega⟩
          have hinj' : (j : Int) < (n : Nat) := by omega
          have r1 := HR.out k hink
          have r2 := HR2.out k hink
          have c1 := HC.out k hink j hinj
          have c2 := HC2.out k hink j hinj
          have Hst := Lib.hid (HL1.out gj k j)
          obtain ⟨x, hx⟩ : ∃ x, at2 X k j = x := ⟨_, rfl⟩
          obtain ⟨y, hy⟩ : ∃ x, at2 Y k j = x := ⟨_, rfl⟩
          rw [hx] at c1 Hst
          rw [hy] at c2 Hst
          clear hx hy
          by_cases q : x = y
          · have HN := Lib.hid (show lsI (row X k) (row Y k) (gj + 1) j = lsI (row X k) (row Y k) gj (j + 1) by rw [Hst.out, if_neg (fun h => h q)])
            have q' : (x != y) = false := by simp [q]
            clear q
            go_wp2
            go_quiet (fail)
            go_wp2
            go_roundg gj
            case measure => omega
            case rel => exact ⟨j + 1, _, by omega, by go_num, by first | rfl | exact drewN_0 _ | exact drewN_add _ _ _, Lib.hid (by rw [← HN.out]; exact Hj.out)⟩
          · have q' : (x != y) = true := by simp [q]
            have HN := Lib.hid (show lsQ X Y n n 0 = decide (x < y) by rw [← Hk.out, HL0.out, ← Hj.out, Hst.out, if_pos q])
            clear q
            go_wp2
            go_quiet (fail)
            go_wp2
            go_quiet (fail)
            go_wp2
            go_ret
            exact ⟨ret_bool HN.out.symm, _, by first | rfl | exact drewN_add _ _ _ | rw [drewN_add, drewN_add]⟩
        · have hinj' : ¬ (j : Int) < (n : Nat) := by omega
          obtain rfl : gk = 0 := by omega
          have HT := Lib.hid (show lsI (row X k) (row Y k) n 0 = none by rw [← Hj.out]; rfl)
          go_wp2
          go_roundg gk
          case measure => omega
          case rel => exact ⟨k + 1, _, by omega, by go_num, by first | rfl | exact drewN_0 _ | exact drewN_add _ _ _, Lib.hid (by rw [← Hk.out, HL0.out, HT.out])⟩
    · have hink' : ¬ (k : Int) < (n : Nat) := by omega
      obtain rfl : gk = 0 := by omega
      go_wp2
      go_ret
      exact ⟨ret_bool (by rw [← Hk.out]; rfl), _, rfl⟩
def fir1 (D : List (List Int)) (L : List (List Int)) : Nat → Nat → List (List Int) → List (List Int) := itR (fun i b => if cmpM (ordD D (row L i)) b < 0 then ordD D (row L i) else b)
/-- the first of all orders of a space -/
def firV (D : List (List Int)) : List (List Int) := fir1 D (ordK D.length D.length) (ordK D.length D.length).length 0 D
theorem ordK_head : ∀ n : Nat, 1 ≤ n → n ≤ 5 → row (ordK n n) 0 = (List.range n).map (fun i : Nat => (i : Int)) := by
  have key : ∀ n : Fin 6, 1 ≤ n.val → row (ordK n.val n.val) 0 = (List.range n.val).map (fun i : Nat => (i : Int)) := by decide +kernel
  exact fun n h1 h5 => key ⟨n, by omega⟩ h1
theorem ordD_id {D : List (List Int)} (h : Sq D) : ordD D ((List.range D.length).map fun i : Nat => (i : Int)) = D := by
  have hix : ∀ a, a < D.length → ix ((List.range D.length).map fun a : Nat => (a : Int)) a = (a : Int) := fun a ha => by
    rw [ix_of (by simpa using ha)]; simp
  refine mat_ext (by rw [ordD_len]; simp) (fun i hi => ?_) fun i hi k hk => ?_
  · rw [ordD_len] at hi
    simp at hi
    rw [ordD_row (by simpa using hi), h i hi]
    simp
  · rw [ordD_len] at hi
    rw [ordD_row hi] at hk
    simp at hi hk
    rw [ordD_at (by simpa using hi) (by simpa using hk), hix i hi, hix k hk]
    simp
theorem firV_from {D : List (List Int)} (h : Sq D) (h1 : 1 ≤ D.length) (h5 : D.length ≤ 5) : firV D = fir1 D (ordK D.length D.length) ((ordK D.length D.length).length - 1) 1 D := by
  obtain ⟨-, f2, -⟩ := ordK_facts D.length D.length h5 (Nat.le_refl _)
  obtain ⟨g, hg⟩ : ∃ g, (ordK D.length D.length).length = g + 1 := ⟨(ordK D.length D.length).length - 1, by omega⟩
  unfold firV
  rw [hg]
  show fir1 D _ g 1 (if cmpM (ordD D (row (ordK D.length D.length) 0)) D < 0 then _ else D) = _
  rw [ordK_head _ h1 h5, ordD_id h, if_neg (by rw [cmpM_zero.2 rfl]; decide)]
  rfl
end Go.Proofs.YtnalcgcdohlfiaaGreatDoor
namespace Go.Proofs.YtnalcgcdohlfiaaGreatDoor
open Go.RowKit
def fofV (D : List (List Int)) : List (List Int) := if spB D = true ∧ D.length ≤ 5 then firV D else []
theorem ordD_sq (D : List (List Int)) (o : List Int) : Sq (ordD D o) := fun i hi => by
  rw [ordD_len] at hi ⊢
  rw [ordD_row hi]
  simp
set_option maxRecDepth 100000 in
set_option maxHeartbeats 4000000 in
theorem iFirstOf_any (A : Option Addr) (ca : Nat) (D : List (List Int)) (w : World) (hD : Mat w A ca D) :
    Calls Tryz.prog 92 #[.slice A D.length ca] w (FreshR w (fofV D)) := by
  have HMD := Lib.hid hD
  have HCD := Lib.hid (fun W (q : Mat W A ca D) => isSpace_any A ca D W q)
  have hlD := hD.1
  have hmD := hD.2.1
  unfold maxLen at hmD
  cases hs : spB D with
  | false =>
    have HF := Lib.hid (show fofV D = [] from if_neg fun q => absurd (hs.symm.trans q.1) (by decide))
    rw [hs] at HCD
    clear hs hD
    go_enter Tryz.func92, Tryz.ntmps92
    go_wp2_with fail
    refine (HCD.out _ (HMD.out.ext (by repeat (first | exact Ext.refl _ | assumption | apply Ext.drewN' | apply Ext.alloc' | refine Ext.trans ?_ (by assumption))))).mono ?_
    rintro e w1 ⟨rfl, m1, rfl⟩
    go_wp2
    go_ret
    rw [HF.out]
    exact ⟨_, rfl, AccR.nil (by repeat (first | exact Ext.refl _ | assumption | apply Ext.drewN' | apply Ext.alloc' | refine Ext.trans ?_ (by assumption)))⟩
  | true =>
  by_cases h5 : D.length ≤ 5
  rotate_left
  · have HF := Lib.hid (show fofV D = [] from if_neg fun q => h5 q.2)
    have h5' : (5 : Int) < (D.length : Nat) := by omega
    rw [hs] at HCD
    clear hs hD h5
    go_enter Tryz.func92, Tryz.ntmps92
    go_wp2_with fail
    refine (HCD.out _ (HMD.out.ext (by repeat (first | exact Ext.refl _ | assumption | apply Ext.drewN' | apply Ext.alloc' | refine Ext.trans ?_ (by assumption))))).mono ?_
    rintro e w1 ⟨rfl, m1, rfl⟩
    go_wp2
    go_ret
    rw [HF.out]
    exact ⟨_, rfl, AccR.nil (by repeat (first | exact Ext.refl _ | assumption | apply Ext.drewN' | apply Ext.alloc' | refine Ext.trans ?_ (by assumption)))⟩
  · have hf := spB_far hs
    obtain ⟨⟨n1, -⟩, hsq, -⟩ := farB_parts hf
    obtain ⟨n, hnn⟩ : ∃ n, D.length = n := ⟨_, rfl⟩
    have HF := Lib.hid (show fofV D = firV D from if_pos ⟨hs, h5⟩)
    have HD0 := Lib.hid (show firV D = fir1 D (ordK D.length D.length) (ordK D.length D.length).length 0 D from rfl)
    rw [hnn] at HD0
    have HOF := Lib.hid (fun W => ordersOf_any n W (by omega))
    have HCP := Lib.hid (fun W (q : Mat W A ca D) => copyRows_any A ca D W q (by omega) (fun i hi => by rw [hsq i hi]; omega))
    obtain ⟨f1, f2, f3⟩ := ordK_facts n n (by omega) (Nat.le_refl _)
    obtain ⟨L, hL⟩ : ∃ L, ordK n n = L := ⟨_, rfl⟩
    rw [hL] at HD0 HOF f1 f2 f3
    have HOR := Lib.hid (fun i (hi : i < L.length) Bo co W (q1 : Mat W A ca D) (q2 : Ints W Bo co (row L i)) => ordered_own A ca D Bo co (row L i) W q1 q2 hf (by rw [(f3 i hi).1]; omega) (fun j hj => by rw [hnn]; exact (f3 i hi).2 j (by rw [(f3 i hi).1] at hj; exact hj)))
    have HLn := Lib.hid (fun i (hi : i < L.length) => (f3 i hi).1)
    have HOL := Lib.hid (fun i (hi : i < L.length) => show (ordD D (row L i)).length = n by rw [ordD_len, (f3 i hi).1])
    have HF1 := Lib.hid (fun g i b => show fir1 D L (g + 1) i b = fir1 D L g (i + 1) (if cmpM (ordD D (row L i)) b < 0 then ordD D (row L i) else b) from rfl)
    rw [hs] at HCD
    rw [hnn] at HCD HCP hlD HOR h5
    rw [hnn]
    clear hs hD hf f3 hL hsq
    obtain ⟨M, hM⟩ : ∃ M, L.length = M := ⟨_, rfl⟩
    have h5' : ¬ (5 : Int) < (n : Nat) := by omega
    have HML := Lib.hid hM
    have HNN := Lib.hid hnn
    rw [hM] at HD0 HOR HLn HOL f1 f2
    clear hM hnn
    go_enter Tryz.func92, Tryz.ntmps92
    go_wp2_with fail
    refine (HCD.out _ (HMD.out.ext (by repeat (first | exact Ext.refl _ | assumption | apply Ext.drewN' | apply Ext.alloc' | refine Ext.trans ?_ (by assumption))))).mono ?_
    rintro e w1 ⟨rfl, m1, rfl⟩
    go_wp2_with fail
    refine (HCP.out _ (HMD.out.ext (by repeat (first | exact Ext.refl _ | assumption | apply Ext.drewN' | apply Ext.alloc' | refine Ext.trans ?_ (by assumption))))).mono ?_
    rintro e w2 ⟨v2, rfl, hA2⟩
    have HA2 := Lib.hid (show AccR w w2 v2 D from hA2.low (by repeat (first | exact Ext.refl _ | assumption | apply Ext.drewN' | apply Ext.alloc' | refine Ext.trans ?_ (by assumption))))
    clear hA2
    go_wp2_with fail
    refine (HOF.out _).mono ?_
    rintro e w3 ⟨Ao, co, Vo, rfl, hLo, -, -, hx3⟩
    have hMo := hLo.mat
    obtain ⟨p1, p2, -⟩ := id hMo
    obtain ⟨b, o, R, rc, -, -, hA, hrow, -, -, -, hints⟩ := hMo.parts
    unfold maxLen at p2
    obtain rfl := hA (by rw [HML.out]; omega)
    rw [HML.out] at hrow hints p1
    rw [HML.out]
    have HROW := Lib.hid hrow
    have HINT := Lib.hid hints
    have HX3 := Lib.hid (show Ext w w3 from HA2.out.x.trans hx3)
    have HA3 := Lib.hid (HA2.out.on hx3)
    clear hrow hints hA hLo hMo hx3 HA2
    go_wp2
    go_loopg [21, 3] M (fun g s21 s3 wr => ∃ (k : Nat) (X : List (List Int)), k + g = M ∧ s21 = .int .i64 k ∧ Hid (Ext w3 wr ∧ AccR w wr s3 X ∧ X.length = n ∧ fir1 D L g k X = firV D))
    case atStart => exact ⟨0, D, by omega, rfl, Lib.hid ⟨Ext.refl _, HA3.out, HNN.out, HD0.out.symm⟩⟩
    case round =>
      obtain ⟨k, X, hk, rfl, HR⟩ := hrel
      have hxr := HR.out.1
      obtain ⟨Ab, cb, hvb, hMb⟩ := HR.out.2.1.mat
      rw [HR.out.2.2.1] at hvb
      subst hvb
      by_cases hin : k < M
      · obtain ⟨gk1, rfl⟩ : ∃ g', gk = g' + 1 := ⟨gk - 1, by omega⟩
        have hin' : (k : Int) < (M : Nat) := by omega
        have c1 := hxr.cell (HROW.out k hin)
        have HIk := Lib.hid ((HINT.out k hin).ext hxr)
        have HDk := Lib.hid (HOR.out k hin (R k) (rc k) wr (HMD.out.ext (HX3.out.trans hxr)) HIk.out)
        have hlk := HLn.out k hin
        have HLL := Lib.hid (HOL.out k hin)
        have HS1 := Lib.hid (HF1.out gk1 k X)
        rw [hlk] at c1 HDk
        clear hlk HIk
        obtain ⟨Y, hY⟩ : ∃ Y, ordD D (row L k) = Y := ⟨_, rfl⟩
        rw [hY] at HDk HLL HS1
        clear hY
        have HZ := Lib.hid (fun Ax cx W (q1 : Mat W Ax cx Y) (q2 : Mat W Ab cb X) => compareRows_any Ax Ab cx cb Y X W q1 q2)
        rw [HLL.out, HR.out.2.2.1] at HZ
        have HMb := Lib.hid hMb
        obtain ⟨Z, hZ⟩ : ∃ Z, cmpM Y X = Z := ⟨_, rfl⟩
        rw [hZ] at HZ HS1
        clear hZ hMb
        go_wp2_with fail
        refine HDk.out.mono ?_
        rintro e w4 ⟨v4, rfl, hA4⟩
        obtain ⟨Ax, cx, hvx, hMx⟩ := hA4.mat
        rw [HLL.out] at hvx
        subst hvx
        have hx4 := hA4.x
        have HA4 := Lib.hid (hA4.low (HX3.out.trans hxr))
        have HZ1 := Lib.hid (HZ.out Ax cx w4 hMx (HMb.out.ext hx4))
        clear hMx hA4
        go_wp2_with fail
        refine HZ1.out.mono ?_
        rintro e w5 ⟨rfl, m5, rfl⟩
        have hx5 : Ext w3 (w4.drewN m5) := (hxr.trans hx4).drewN' _
        by_cases hz : Z < 0
        · have HN := Lib.hid (show fir1 D L gk1 (k + 1) Y = firV D by rw [← HR.out.2.2.2, HS1.out, if_pos hz])
          go_wp2
          go_roundg gk1
          case measure => omega
          case rel => exact ⟨k + 1, Y, by omega, by go_num, Lib.hid ⟨by first | exact hx5 | exact hx5.drewN' _, by first | exact HA4.out.on (Ext.drewN _ _) | exact (HA4.out.on (Ext.drewN _ _)).on (Ext.drewN _ _), HLL.out, HN.out⟩⟩
        · have HN := Lib.hid (show fir1 D L gk1 (k + 1) X = firV D by rw [← HR.out.2.2.2, HS1.out, if_neg hz])
          go_wp2
          go_roundg gk1
          case measure => omega
          case rel => exact ⟨k + 1, X, by omega, by go_num, Lib.hid ⟨by first | exact hx5 | exact hx5.drewN' _, by first | exact (HR.out.2.1.on hx4).on (Ext.drewN _ _) | exact ((HR.out.2.1.on hx4).on (Ext.drewN _ _)).on (Ext.drewN _ _), HR.out.2.2.1, HN.out⟩⟩
      · have hin' : ¬ (k : Int) < (M : Nat) := by omega
        obtain rfl : gk = 0 := by omega
        obtain rfl : k = M := by omega
        have HE := Lib.hid (show X = fofV D by rw [HF.out, ← HR.out.2.2.2]; rfl)
        clear hMb
        go_wp2
        go_ret
        rw [← HE.out]
        exact ⟨_, rfl, HR.out.2.1⟩
set_option maxRecDepth 100000 in
set_option maxHeartbeats 4000000 in
theorem sFirstOf_any (A : Option Addr) (ca : Nat) (D : List (List Int)) (w : World) (hD : Mat w A ca D) :
    Calls Tryz.prog 86 #[.slice A D.length ca] w (FreshR w (fofV D)) := by
  have HMD := Lib.hid hD
  have HCD := Lib.hid (fun W (q : Mat W A ca D) => SpaceOk_any A ca D W q)
  have hlD := hD.1
  have hmD := hD.2.1
  unfold maxLen at hmD
  cases hs : spB D with
  | false =>
    have HF := Lib.hid (show fofV D = [] from if_neg fun q => absurd (hs.symm.trans q.1) (by decide))
    rw [hs] at HCD
    clear hs hD
    go_enter Tryz.func86, Tryz.ntmps86
    go_wp2_with fail
    refine (HCD.out _ (HMD.out.ext (by repeat (first | exact Ext.refl _ | assumption | apply Ext.drewN' | apply Ext.alloc' | refine Ext.trans ?_ (by assumption))))).mono ?_
    rintro e w1 ⟨rfl, m1, rfl⟩
    go_wp2
    go_ret
    rw [HF.out]
    exact ⟨_, rfl, (AccR.empty (Ext.refl _)).on (by repeat (first | exact Ext.refl _ | assumption | apply Ext.drewN' | apply Ext.alloc' | refine Ext.trans ?_ (by assumption)))⟩
  | true =>
  by_cases h5 : D.length ≤ 5
  rotate_left
  · have HF := Lib.hid (show fofV D = [] from if_neg fun q => h5 q.2)
    have h5' : (5 : Int) < (D.length : Nat) := by omega
    rw [hs] at HCD
    clear hs hD h5
    go_enter Tryz.func86, Tryz.ntmps86
    go_wp2_with fail
    refine (HCD.out _ (HMD.out.ext (by repeat (first | exact Ext.refl _ | assumption | apply Ext.drewN' | apply Ext.alloc' | refine Ext.trans ?_ (by assumption))))).mono ?_
    rintro e w1 ⟨rfl, m1, rfl⟩
    go_wp2
    go_ret
    rw [HF.out]
    exact ⟨_, rfl, (AccR.empty (Ext.refl _)).on (by repeat (first | exact Ext.refl _ | assumption | apply Ext.drewN' | apply Ext.alloc' | refine Ext.trans ?_ (by assumption)))⟩
  · have hf := spB_far hs
    obtain ⟨⟨n1, -⟩, hsq, -⟩ := farB_parts hf
    obtain ⟨n, hnn⟩ : ∃ n, D.length = n := ⟨_, rfl⟩
    have HF := Lib.hid (show fofV D = firV D from if_pos ⟨hs, h5⟩)
    have HD0 := Lib.hid (firV_from hsq n1 h5)
    have HOF := Lib.hid (fun W => l7Orders_any n W (by omega))
    obtain ⟨f1, f2, f3⟩ := ordK_facts n n (by omega) (Nat.le_refl _)
    have hok := ordK_ok n (by omega) (by omega)
    have hh := ordK_head n (by omega) (by omega)
    rw [hnn] at HD0
    obtain ⟨L, hL⟩ : ∃ L, ordK n n = L := ⟨_, rfl⟩
    rw [hL] at HD0 HOF f1 f2 f3 hok hh
    have H00 := Lib.hid (show ordD D (row L 0) = D by rw [hh, ← hnn]; exact ordD_id hsq)
    have HOR := Lib.hid (fun i (hi : i < L.length) Bo co W (q1 : Mat W A ca D) (q2 : Ints W Bo co (row L i)) => sOrdered_own A ca D Bo co (row L i) W q1 q2)
    have HOV := Lib.hid (fun i (hi : i < L.length) => show ordV D (row L i) = ordD D (row L i) from if_pos ⟨hs, hok i hi, by rw [(f3 i hi).1, hnn]⟩)
    have HLn := Lib.hid (fun i (hi : i < L.length) => (f3 i hi).1)
    have HOL := Lib.hid (fun i (hi : i < L.length) => show (ordD D (row L i)).length = n by rw [ordD_len, (f3 i hi).1])
    have HF1 := Lib.hid (fun g i b => show fir1 D L (g + 1) i b = fir1 D L g (i + 1) (if cmpM (ordD D (row L i)) b < 0 then ordD D (row L i) else b) from rfl)
    have HSQ := Lib.hid hsq
    rw [hs] at HCD
    rw [hnn] at HCD hlD HOR h5
    rw [hnn]
    clear hs hD hf f3 hL hsq hok hh
    obtain ⟨M, hM⟩ : ∃ M, L.length = M := ⟨_, rfl⟩
    have h5' : ¬ (5 : Int) < (n : Nat) := by omega
    have HML := Lib.hid hM
    have HNN := Lib.hid hnn
    rw [hM] at HD0 HOR HLn HOL f1 f2 HOV
    clear hM hnn
    go_enter Tryz.func86, Tryz.ntmps86
    go_wp2_with fail
    refine (HCD.out _ (HMD.out.ext (by repeat (first | exact Ext.refl _ | assumption | apply Ext.drewN' | apply Ext.alloc' | refine Ext.trans ?_ (by assumption))))).mono ?_
    rintro e w1 ⟨rfl, m1, rfl⟩
    go_wp2_with fail
    refine (HOF.out _).mono ?_
    rintro e w3 ⟨Ao, co, Vo, rfl, hLo, -, -, hx3⟩
    have hMo := hLo.mat
    obtain ⟨p1, p2, -⟩ := id hMo
    obtain ⟨b, o, R, rc, -, -, hA, hrow, -, -, -, hints⟩ := hMo.parts
    unfold maxLen at p2
    obtain rfl := hA (by rw [HML.out]; omega)
    rw [HML.out] at hrow hints p1
    rw [HML.out]
    have HROW := Lib.hid hrow
    have HINT := Lib.hid hints
    have HX3 := Lib.hid (show Ext w w3 from Ext.trans (by repeat (first | exact Ext.refl _ | assumption | apply Ext.drewN' | apply Ext.alloc' | refine Ext.trans ?_ (by assumption))) hx3)
    clear hrow hints hA hLo hMo hx3
    go_wp2
    go_loopg [5, 3] M (fun g s5 s3 wr => ∃ (k : Nat) (X : List (List Int)), k + g = M ∧ s5 = .int .i64 k ∧ (k = 0 → s3 = .slice (some ⟨w.heap.size, 0, none⟩) 0 0) ∧ Hid (Ext w3 wr ∧ (0 < k → AccR w wr s3 X ∧ X.length = n ∧ Sq X ∧ fir1 D L g k X = firV D)))
    case atStart => exact ⟨0, D, by omega, rfl, fun _ => rfl, Lib.hid ⟨Ext.refl _, fun h => absurd h (by omega)⟩⟩
    case round =>
      obtain ⟨k, X, hk, rfl, hk0, HR⟩ := hrel
      have hxr := HR.out.1
      by_cases hin : k < M
      · obtain ⟨gk1, rfl⟩ : ∃ g', gk = g' + 1 := ⟨gk - 1, by omega⟩
        have hin' : (k : Int) < (M : Nat) := by omega
        have c1 := hxr.cell (HROW.out k hin)
        have HIk := Lib.hid ((HINT.out k hin).ext hxr)
        have HDk := Lib.hid (HOR.out k hin (R k) (rc k) wr (HMD.out.ext (HX3.out.trans hxr)) HIk.out)
        have hlk := HLn.out k hin
        have HLL := Lib.hid (HOL.out k hin)
        rw [HOV.out k hin] at HDk
        rw [hlk] at c1 HDk
        clear hlk HIk
        by_cases hz0 : k = 0
        · subst hz0
          obtain rfl := hk0 rfl
          rw [Nat.add_zero] at c1
          rw [H00.out] at HDk HLL
          have HD1 := Lib.hid (show fir1 D L gk1 1 D = firV D by rw [HD0.out, show M - 1 = gk1 by omega])
          go_wp2_with fail
          refine HDk.out.mono ?_
          rintro e w4 ⟨v4, rfl, hA4⟩
          have hx4 := hA4.x
          have HA4 := Lib.hid (hA4.low (HX3.out.trans hxr))
          clear hA4
          go_wp2
          go_roundg gk1
          case measure => omega
          case rel => exact ⟨1, D, by omega, by go_num, fun h => absurd h (by omega), Lib.hid ⟨by first | exact hxr.trans hx4 | exact (hxr.trans hx4).drewN' _, fun _ => ⟨by first | exact HA4.out | exact HA4.out.on (Ext.drewN _ _), HLL.out, HSQ.out, HD1.out⟩⟩⟩
        · obtain ⟨hAX, hXn, hXs, hXf⟩ := HR.out.2 (by omega)
          obtain ⟨Ab, cb, hvb, hMb⟩ := hAX.mat
          rw [hXn] at hvb
          subst hvb
          have HS1 := Lib.hid (HF1.out gk1 k X)
          have HYS := Lib.hid (ordD_sq D (row L k))
          obtain ⟨Y, hY⟩ : ∃ Y, ordD D (row L k) = Y := ⟨_, rfl⟩
          rw [hY] at HDk HLL HS1 HYS
          clear hY
          have HLQ := Lib.hid (lsQ_cmp (X := Y) (Y := X) HLL.out hXn (fun i hi => by rw [HYS.out i (by rw [HLL.out]; exact hi), HLL.out]) (fun i hi => by rw [hXs i (by omega), hXn]) n 0 (by omega))
          have HLQ2 := Lib.hid (show cmpQ Y X n 0 = cmpM Y X by unfold cmpM; rw [HLL.out])
          have HZ := Lib.hid (fun Ax cx W (q1 : Mat W Ax cx Y) (q2 : Mat W Ab cb X) => l7Less_any Ax Ab cx cb n Y X W q1 q2 HLL.out hXn HYS.out hXs)
          rw [HLQ.out, HLQ2.out] at HZ
          have HMb := Lib.hid hMb
          have HAX := Lib.hid hAX
          have HXS := Lib.hid (And.intro hXn hXs)
          have HXF := Lib.hid hXf
          obtain ⟨Z, hZ⟩ : ∃ Z, cmpM Y X = Z := ⟨_, rfl⟩
          rw [hZ] at HZ HS1
          have hk0' : ((k : Int) == 0) = false := beq_eq_false_iff_ne.2 (by omega)
          clear hZ hMb hAX hXn hXs hXf hk0
          go_wp2_with fail
          refine HDk.out.mono ?_
          rintro e w4 ⟨v4, rfl, hA4⟩
          obtain ⟨Ax, cx, hvx, hMx⟩ := hA4.mat
          rw [HLL.out] at hvx
          subst hvx
          have hx4 := hA4.x
          have HA4 := Lib.hid (hA4.low (HX3.out.trans hxr))
          have HZ1 := Lib.hid (HZ.out Ax cx w4 hMx (HMb.out.ext hx4))
          clear hMx hA4
          by_cases hz : Z < 0
          · have HN := Lib.hid (show fir1 D L gk1 (k + 1) Y = firV D by rw [← HXF.out, HS1.out, if_pos hz])
            rw [decide_eq_true hz] at HZ1
            go_wp2_with fail
            refine HZ1.out.mono ?_
            rintro e w5 ⟨rfl, m5, rfl⟩
            have hx5 : Ext w3 (w4.drewN m5) := (hxr.trans hx4).drewN' _
            go_wp2
            go_roundg gk1
            case measure => omega
            case rel => exact ⟨k + 1, Y, by omega, by go_num, fun h => absurd h (by omega), Lib.hid ⟨by first | exact hx5 | exact hx5.drewN' _, fun _ => ⟨by first | exact HA4.out.on (Ext.drewN _ _) | exact (HA4.out.on (Ext.drewN _ _)).on (Ext.drewN _ _), HLL.out, HYS.out, HN.out⟩⟩⟩
          · have HN := Lib.hid (show fir1 D L gk1 (k + 1) X = firV D by rw [← HXF.out, HS1.out, if_neg hz])
            rw [decide_eq_false hz] at HZ1
            go_wp2_with fail
            refine HZ1.out.mono ?_
            rintro e w5 ⟨rfl, m5, rfl⟩
            have hx5 : Ext w3 (w4.drewN m5) := (hxr.trans hx4).drewN' _
            go_wp2
            go_roundg gk1
            case measure => omega
            case rel => exact ⟨k + 1, X, by omega, by go_num, fun h => absurd h (by omega), Lib.hid ⟨by first | exact hx5 | exact hx5.drewN' _, fun _ => ⟨by first | exact (HAX.out.on hx4).on (Ext.drewN _ _) | exact ((HAX.out.on hx4).on (Ext.drewN _ _)).on (Ext.drewN _ _), HXS.out.1, HXS.out.2, HN.out⟩⟩⟩
      · have hin' : ¬ (k : Int) < (M : Nat) := by omega
        obtain rfl : gk = 0 := by omega
        obtain rfl : k = M := by omega
        obtain ⟨hAX, hXn, hXs, hXf⟩ := HR.out.2 (by omega)
        have HE := Lib.hid (show X = fofV D by rw [HF.out, ← hXf]; rfl)
        have HAX := Lib.hid hAX
        clear hAX hXn hXs hXf hk0
        go_wp2
        go_ret
        rw [← HE.out]
        exact ⟨_, rfl, HAX.out⟩
end Go.Proofs.YtnalcgcdohlfiaaGreatDoor
namespace Go.Proofs.YtnalcgcdohlfiaaGreatDoor
open Go.RowKit
def pfC (D : List (List Int)) (xs : List Int) (k j : Nat) : Bool := decide (ix xs k - ix xs j ≤ at2 D k j) && (decide (k = j) || decide (at2 D k j ≤ ix xs k + ix xs j))
def pfI (D : List (List Int)) (xs : List Int) : Bool := allR (fun k => inB (ix xs k) 1 60) D.length 0
def pfA (D : List (List Int)) (xs : List Int) : Bool := allR (fun k => allR (fun j => pfC D xs k j) D.length 0) D.length 0
/-- whether a new point may be so far -/
def fitsB (D : List (List Int)) (xs : List Int) : Bool := (spB D && decide (D.length < 6 ∧ xs.length = D.length)) && (pfI D xs && pfA D xs)
/-- a cell as the code looks at it -/
def pfW (D : List (List Int)) (xs : List Int) (k j : Nat) : Bool := inB (ix xs k) 1 60 && (decide (wrap64 (ix xs k - ix xs j) ≤ at2 D k j) && (decide (k = j) || decide (at2 D k j ≤ wrap64 (ix xs k + ix xs j))))
theorem inB_iff {n lo hi : Int} : inB n lo hi = true ↔ lo ≤ n ∧ n ≤ hi := by unfold inB; exact decide_eq_true_iff
theorem pfW_all {D : List (List Int)} {xs : List Int} (_h1 : 1 ≤ D.length) : allR (fun k => allR (fun j => pfW D xs k j) D.length 0) D.length 0 = (pfI D xs && pfA D xs) := by
  have hw : ∀ a b : Int, 1 ≤ a ∧ a ≤ 60 → 1 ≤ b ∧ b ≤ 60 → wrap64 (a - b) = a - b ∧ wrap64 (a + b) = a + b := fun a b h1 h2 => ⟨IntWalk.wrap64_in _ ⟨by omega, by omega⟩, IntWalk.wrap64_in _ ⟨by omega, by omega⟩⟩
  have hcell : (∀ k, k < D.length → inB (ix xs k) 1 60 = true) → ∀ k, k < D.length → ∀ j, j < D.length → pfW D xs k j = pfC D xs k j := fun h k hk j hj => by
    obtain ⟨e1, e2⟩ := hw _ _ (inB_iff.1 (h k hk)) (inB_iff.1 (h j hj))
    unfold pfW pfC
    rw [h k hk, e1, e2, Bool.true_and]
  rw [Bool.eq_iff_iff, Bool.and_eq_true]
  unfold pfI pfA
  rw [allR_all, allR_all, allR_all]
  constructor
  · intro h
    have hin : ∀ k, k < D.length → inB (ix xs k) 1 60 = true := fun k hk => by
      have := (allR_all _ _).1 (h k hk) k hk
      unfold pfW at this
      rw [Bool.and_eq_true] at this
      exact this.1
    refine ⟨hin, fun k hk => (allR_all _ _).2 fun j hj => ?_⟩
    rw [← hcell hin k hk j hj]
    exact (allR_all _ _).1 (h k hk) j hj
  · rintro ⟨hin, h⟩ k hk
    refine (allR_all _ _).2 fun j hj => ?_
    rw [hcell hin k hk j hj]
    exact (allR_all _ _).1 (h k hk) j hj
set_option maxRecDepth 100000 in
set_option maxHeartbeats 8000000 in
theorem sPointFits_ex (A : Option Addr) (cp : Nat) (D : List (List Int)) (B : Option Addr) (cq : Nat) (xs : List Int) (w : World) (h : Mat w A cp D) (hx : Ints w B cq xs) :
    Calls Tryz.prog 109 #[.slice A D.length cp, .slice B xs.length cq] w fun e w' => e = .returned (.bool (fitsB D xs)) ∧ ∃ m, w' = w.drewN m := by
  have hcm := h.2.1
  have hlc := h.1
  unfold maxLen at hcm
  have hcx := hx.2.1
  have hlx := hx.1
  unfold maxLen at hcx
  have HC := Lib.hid (SpaceOk_any A cp D w h)
  have HD := Lib.hid (show fitsB D xs = ((spB D && decide (D.length < 6 ∧ xs.length = D.length)) && (pfI D xs && pfA D xs)) from rfl)
  cases hs : spB D with
  | false =>
    have HF := Lib.hid (show fitsB D xs = false by rw [HD.out, hs]; rfl)
    rw [hs] at HC
    clear hs h hx
    go_enter Tryz.func109, Tryz.ntmps109
    go_wp2_with fail
    refine (HC.out).mono ?_
    rintro e w1 ⟨rfl, m1, rfl⟩
    go_wp2
    go_ret
    exact ⟨ret_bool HF.out.symm, _, by first | rfl | exact drewN_add _ _ _⟩
  | true =>
  rw [hs] at HC
  by_cases h6 : 6 ≤ D.length
  · have h6' : (6 : Int) ≤ (D.length : Nat) := by omega
    have HF := Lib.hid (show fitsB D xs = false by rw [HD.out, decide_eq_false (fun q => by omega), Bool.and_false, Bool.false_and])
    clear hs h hx
    go_enter Tryz.func109, Tryz.ntmps109
    go_wp2_with fail
    refine (HC.out).mono ?_
    rintro e w1 ⟨rfl, m1, rfl⟩
    go_wp2
    go_ret
    exact ⟨ret_bool HF.out.symm, _, by first | rfl | exact drewN_add _ _ _⟩
  have h6' : ¬ (6 : Int) ≤ (D.length : Nat) := by omega
  by_cases hl : xs.length = D.length
  rotate_left
  · have hl' : ((xs.length : Int) != (D.length : Int)) = true := by simp; omega
    have HF := Lib.hid (show fitsB D xs = false by rw [HD.out, decide_eq_false (fun q => hl q.2), Bool.and_false, Bool.false_and])
    clear hs h hx
    go_enter Tryz.func109, Tryz.ntmps109
    go_wp2_with fail
    refine (HC.out).mono ?_
    rintro e w1 ⟨rfl, m1, rfl⟩
    go_wp2
    go_ret
    exact ⟨ret_bool HF.out.symm, _, by first | rfl | exact drewN_add _ _ _⟩
  · obtain ⟨⟨hn1, hn6⟩, hsq, hcells⟩ := farB_parts (spB_far hs)
    have HFIN := Lib.hid (show fitsB D xs = allR (fun k => allR (fun j => pfW D xs k j) D.length 0) D.length 0 by rw [pfW_all hn1, HD.out, hs, decide_eq_true ⟨by omega, hl⟩]; rfl)
    obtain ⟨bk, o, rc, rb, ro, hA, hrow, hlen, hcell, -⟩ := h.square hsq
    obtain rfl := hA (by omega)
    obtain ⟨-, -, b2, o2, hB, hc2⟩ := hx
    obtain rfl := hB (by omega)
    rw [hl] at hc2
    have HROW := Lib.hid hrow
    have HLEN := Lib.hid hlen
    have HCE := Lib.hid hcell
    have HX := Lib.hid hc2
    have HW := Lib.hid (fun k j => show pfW D xs k j = (inB (ix xs k) 1 60 && (decide (wrap64 (ix xs k - ix xs j) ≤ at2 D k j) && (decide (k = j) || decide (at2 D k j ≤ wrap64 (ix xs k + ix xs j))))) from rfl)
    have hl' : ((D.length : Int) != (D.length : Int)) = false := by simp
    have HSj := Lib.hid (fun g k j => show allR (fun j => pfW D xs k j) (g + 1) j = (pfW D xs k j && allR (fun j => pfW D xs k j) g (j + 1)) from rfl)
    have HSk := Lib.hid (fun g k => show allR (fun k => allR (fun j => pfW D xs k j) D.length 0) (g + 1) k = (allR (fun j => pfW D xs k j) D.length 0 && allR (fun k => allR (fun j => pfW D xs k j) D.length 0) g (k + 1)) from rfl)
    obtain ⟨n, hn⟩ : ∃ n, xs.length = n := ⟨_, rfl⟩
    rw [hn] at hl hlx
    rw [hn]
    subst hl
    clear hs h hsq hcells hrow hlen hcell hA hB hc2 hn
    go_enter Tryz.func109, Tryz.ntmps109
    go_wp2_with fail
    refine (HC.out).mono ?_
    rintro e w1 ⟨rfl, m1, rfl⟩
    go_wp2
    go_loopg [5] (D.length) (fun g s5 wr => ∃ (k m : Nat), k + g = D.length ∧ s5 = .int .i64 k ∧ wr = w.drewN m ∧ Hid (allR (fun k => allR (fun j => pfW D xs k j) D.length 0) g k = allR (fun k => allR (fun j => pfW D xs k j) D.length 0) D.length 0))
    case atStart => exact ⟨0, _, by omega, rfl, by first | rfl | exact drewN_0 _ | exact drewN_add _ _ _, Lib.hid (rfl)⟩
    case round =>
      obtain ⟨k, mk, hk, rfl, rfl, Hk⟩ := hrel
      by_cases hink : k < D.length
      · obtain ⟨gk, rfl⟩ : ∃ g', gk = g' + 1 := ⟨gk - 1, by omega⟩
        have hink' : (k : Int) < (D.length : Nat) := by omega
        go_wp2
        go_loopg [6] (D.length) (fun g s6 wr => ∃ (j m : Nat), j + g = D.length ∧ s6 = .int .i64 j ∧ wr = w.drewN m ∧ Hid (allR (fun j => pfW D xs k j) g j = allR (fun j => pfW D xs k j) D.length 0))
        case atStart => exact ⟨0, _, by omega, rfl, by first | rfl | exact drewN_0 _ | exact drewN_add _ _ _, Lib.hid (rfl)⟩
        case round =>
          obtain ⟨j, mj, hj, rfl, rfl, Hj⟩ := hrel
          by_cases hinj : j < D.length
          · obtain ⟨gj, rfl⟩ : ∃ g', gk = g' + 1 := ⟨gk - 1, by omega⟩
            have hinj' : (j : Int) < (D.length : Nat) := by omega
            have r1 := HROW.out k hink
            have hl1 := (HLEN.out k hink).1
            have c1 := HCE.out k hink j hinj
            have x1 := HX.out k hink
            have x2 := HX.out j hinj
            have HWk := Lib.hid (HW.out k j)
            have HSt := Lib.hid (HSj.out gj k j)
            obtain ⟨X, hX⟩ : ∃ X, ix xs k = X := ⟨_, rfl⟩
            obtain ⟨Y, hY⟩ : ∃ Y, ix xs j = Y := ⟨_, rfl⟩
            obtain ⟨Z, hZ⟩ : ∃ Z, at2 D k j = Z := ⟨_, rfl⟩
            rw [hX] at x1 HWk
            rw [hY] at x2 HWk
            rw [hZ] at c1 HWk
            clear hX hY hZ
            obtain ⟨S, hS1⟩ : ∃ S, wrap64 (X - Y) = S := ⟨_, rfl⟩
            obtain ⟨T, hT1⟩ : ∃ S, wrap64 (X + Y) = S := ⟨_, rfl⟩
            have hS2 : IntKind.i64.wrap (X - Y) = S := (IntWalk.i64_left _).trans hS1
            have hT2 : IntKind.i64.wrap (X + Y) = T := (IntWalk.i64_left _).trans hT1
            rw [hS1, hT1] at HWk
            have HBAD := Lib.hid (fun (q : pfW D xs k j = false) => show fitsB D xs = false by rw [HFIN.out, ← Hk.out, HSk.out, ← Hj.out, HSt.out, q, Bool.false_and, Bool.false_and])
            have HGOOD := Lib.hid (fun (q : pfW D xs k j = true) => show allR (fun j => pfW D xs k j) gj (j + 1) = allR (fun j => pfW D xs k j) D.length 0 by rw [← Hj.out, HSt.out, q, Bool.true_and])
            have HIN := Lib.hid (fun W => l1In_any X 1 60 W)
            cases ei : inB X 1 60 with
            | false =>
              have HF := Lib.hid (HBAD.out (by rw [HWk.out, ei]; rfl))
              rw [ei] at HIN
              clear ei
              go_wp2
              go_big_quiet ((go_at_call 53; exact quiet_add_same (HIN.out _)))
              go_wp2
              go_ret
              exact ⟨ret_bool HF.out.symm, _, by first | rfl | exact drewN_add _ _ _⟩
            | true =>
              rw [ei, Bool.true_and] at HWk
              rw [ei] at HIN
              clear ei
              by_cases h1 : Z < S
              · have h1d : decide (Z < S) = true := decide_eq_true h1
                have HF := Lib.hid (HBAD.out (by rw [HWk.out, decide_eq_false (show ¬ S ≤ Z by omega)]; rfl))
                go_wp2
                go_big_quiet ((go_at_call 53; exact quiet_add_same (HIN.out _)))
                go_wp2
                go_ret
                exact ⟨ret_bool HF.out.symm, _, by first | rfl | exact drewN_add _ _ _⟩
              · have h1d : decide (Z < S) = false := decide_eq_false h1
                rw [decide_eq_true (show S ≤ Z by omega), Bool.true_and] at HWk
                by_cases hkj : k = j
                · have hkj' : ((k : Int) != (j : Int)) = false := by simp; omega
                  have HG := Lib.hid (HGOOD.out (by rw [HWk.out, decide_eq_true hkj]; rfl))
                  clear hkj
                  go_wp2
                  go_big_quiet ((go_at_call 53; exact quiet_add_same (HIN.out _)))
                  go_wp2
                  go_roundg gj
                  case measure => omega
                  case rel => exact ⟨j + 1, _, by omega, by go_num, by first | rfl | exact drewN_0 _ | exact drewN_add _ _ _, Lib.hid (by exact HG.out)⟩
                · have hkj' : ((k : Int) != (j : Int)) = true := by simp; omega
                  rw [decide_eq_false hkj, Bool.false_or] at HWk
                  clear hkj
                  by_cases h2 : T < Z
                  · have h2d : decide (T < Z) = true := decide_eq_true h2
                    have HF := Lib.hid (HBAD.out (by rw [HWk.out, decide_eq_false (show ¬ Z ≤ T by omega)]))
                    go_wp2
                    go_big_quiet ((go_at_call 53; exact quiet_add_same (HIN.out _)))
                    go_wp2
                    go_ret
                    exact ⟨ret_bool HF.out.symm, _, by first | rfl | exact drewN_add _ _ _⟩
                  · have h2d : decide (T < Z) = false := decide_eq_false h2
                    have HG := Lib.hid (HGOOD.out (by rw [HWk.out, decide_eq_true (show Z ≤ T by omega)]))
                    go_wp2
                    go_big_quiet ((go_at_call 53; exact quiet_add_same (HIN.out _)))
                    go_wp2
                    go_roundg gj
                    case measure => omega
                    case rel => exact ⟨j + 1, _, by omega, by go_num, by first | rfl | exact drewN_0 _ | exact drewN_add _ _ _, Lib.hid (by exact HG.out)⟩
          · have hinj' : ¬ (j : Int) < (D.length : Nat) := by omega
            obtain rfl : gk = 0 := by omega
            have HT := Lib.hid (show allR (fun j => pfW D xs k j) D.length 0 = true by rw [← Hj.out]; rfl)
            go_wp2
            go_roundg gk
            case measure => omega
            case rel => exact ⟨k + 1, _, by omega, by go_num, by first | rfl | exact drewN_0 _ | exact drewN_add _ _ _, Lib.hid (by rw [← Hk.out, HSk.out, HT.out, Bool.true_and])⟩
      · have hink' : ¬ (k : Int) < (D.length : Nat) := by omega
        obtain rfl : gk = 0 := by omega
        go_wp2
        go_ret
        exact ⟨ret_bool (by rw [HFIN.out, ← Hk.out]; rfl), _, by first | rfl | exact drewN_add _ _ _⟩
set_option maxRecDepth 100000 in
set_option maxHeartbeats 8000000 in
theorem pointFits_any (A : Option Addr) (cp : Nat) (D : List (List Int)) (B : Option Addr) (cq : Nat) (xs : List Int) (w : World) (h : Mat w A cp D) (hx : Ints w B cq xs) :
    Calls Tryz.prog 117 #[.slice A D.length cp, .slice B xs.length cq] w fun e w' => e = .returned (.bool (fitsB D xs)) ∧ ∃ m, w' = w.drewN m := by
  have hcm := h.2.1
  have hlc := h.1
  unfold maxLen at hcm
  have hcx := hx.2.1
  have hlx := hx.1
  unfold maxLen at hcx
  have HC := Lib.hid (isSpace_any A cp D w h)
  have HD := Lib.hid (show fitsB D xs = ((spB D && decide (D.length < 6 ∧ xs.length = D.length)) && (pfI D xs && pfA D xs)) from rfl)
  cases hs : spB D with
  | false =>
    have HF := Lib.hid (show fitsB D xs = false by rw [HD.out, hs]; rfl)
    rw [hs] at HC
    clear hs h hx
    go_enter Tryz.func117, Tryz.ntmps117
    go_wp2_with fail
    refine (HC.out).mono ?_
    rintro e w1 ⟨rfl, m1, rfl⟩
    go_wp2
    go_ret
    exact ⟨ret_bool HF.out.symm, _, by first | rfl | exact drewN_add _ _ _⟩
  | true =>
  rw [hs] at HC
  have hn6 := (farB_parts (spB_far hs)).1.2
  by_cases h6 : D.length = 6
  · have h6' : (((D.length : Nat) : Int) == 6) = true := beq_iff_eq.2 (by omega)
    have HF := Lib.hid (show fitsB D xs = false by rw [HD.out, decide_eq_false (fun q => by omega), Bool.and_false, Bool.false_and])
    clear hs h hx h6
    go_enter Tryz.func117, Tryz.ntmps117
    go_wp2_with fail
    refine (HC.out).mono ?_
    rintro e w1 ⟨rfl, m1, rfl⟩
    go_wp2
    go_ret
    exact ⟨ret_bool HF.out.symm, _, by first | rfl | exact drewN_add _ _ _⟩
  have h6' : (((D.length : Nat) : Int) == 6) = false := beq_eq_false_iff_ne.2 (by omega)
  by_cases hl : xs.length = D.length
  rotate_left
  · have hl' : ((xs.length : Int) != (D.length : Int)) = true := by simp; omega
    have HF := Lib.hid (show fitsB D xs = false by rw [HD.out, decide_eq_false (fun q => hl q.2), Bool.and_false, Bool.false_and])
    clear hs h hx h6
    go_enter Tryz.func117, Tryz.ntmps117
    go_wp2_with fail
    refine (HC.out).mono ?_
    rintro e w1 ⟨rfl, m1, rfl⟩
    go_wp2
    go_ret
    exact ⟨ret_bool HF.out.symm, _, by first | rfl | exact drewN_add _ _ _⟩
  · obtain ⟨⟨hn1, -⟩, hsq, hcells⟩ := farB_parts (spB_far hs)
    have HFIN := Lib.hid (show fitsB D xs = (pfI D xs && pfA D xs) by rw [HD.out, hs, decide_eq_true ⟨by omega, hl⟩]; rfl)
    obtain ⟨bk, o, rc, rb, ro, hA, hrow, hlen, hcell, -⟩ := h.square hsq
    obtain rfl := hA (by omega)
    obtain ⟨-, -, b2, o2, hB, hc2⟩ := hx
    obtain rfl := hB (by omega)
    rw [hl] at hc2
    have HROW := Lib.hid hrow
    have HLEN := Lib.hid hlen
    have HCE := Lib.hid hcell
    have HBD := Lib.hid hcells
    have HX := Lib.hid hc2
    have HPI := Lib.hid (show pfI D xs = allR (fun k => inB (ix xs k) 1 60) D.length 0 from rfl)
    have HPA := Lib.hid (show pfA D xs = allR (fun k => allR (fun j => pfC D xs k j) D.length 0) D.length 0 from rfl)
    have HW := Lib.hid (fun k j => show pfC D xs k j = (decide (ix xs k - ix xs j ≤ at2 D k j) && (decide (k = j) || decide (at2 D k j ≤ ix xs k + ix xs j))) from rfl)
    have hl' : ((D.length : Int) != (D.length : Int)) = false := by simp
    have HSi := Lib.hid (fun g k => show allR (fun k => inB (ix xs k) 1 60) (g + 1) k = (inB (ix xs k) 1 60 && allR (fun k => inB (ix xs k) 1 60) g (k + 1)) from rfl)
    have HSj := Lib.hid (fun g k j => show allR (fun j => pfC D xs k j) (g + 1) j = (pfC D xs k j && allR (fun j => pfC D xs k j) g (j + 1)) from rfl)
    have HSk := Lib.hid (fun g k => show allR (fun k => allR (fun j => pfC D xs k j) D.length 0) (g + 1) k = (allR (fun j => pfC D xs k j) D.length 0 && allR (fun k => allR (fun j => pfC D xs k j) D.length 0) g (k + 1)) from rfl)
    have HALL := Lib.hid (allR_all (fun k => inB (ix xs k) 1 60) D.length)
    obtain ⟨n, hn⟩ : ∃ n, xs.length = n := ⟨_, rfl⟩
    rw [hn] at hl hlx
    rw [hn]
    subst hl
    clear hs h hsq hcells hrow hlen hcell hA hB hc2 hn h6
    go_enter Tryz.func117, Tryz.ntmps117
    go_wp2_with fail
    refine (HC.out).mono ?_
    rintro e w1 ⟨rfl, m1, rfl⟩
    go_wp2
    go_loopg [28] (D.length) (fun g s28 wr => ∃ (i m : Nat), i + g = D.length ∧ s28 = .int .i64 i ∧ wr = w.drewN m ∧ Hid (allR (fun k => inB (ix xs k) 1 60) g i = pfI D xs))
    case atStart => exact ⟨0, _, by omega, rfl, by first | rfl | exact drewN_0 _ | exact drewN_add _ _ _, Lib.hid (HPI.out.symm)⟩
    case round =>
      obtain ⟨i, mi, hi, rfl, rfl, Hi⟩ := hrel
      by_cases hini : i < D.length
      · obtain ⟨gi, rfl⟩ : ∃ g', gk = g' + 1 := ⟨gk - 1, by omega⟩
        have hini' : (i : Int) < (D.length : Nat) := by omega
        have x1 := HX.out i hini
        have HSt := Lib.hid (HSi.out gi i)
        have HII := Lib.hid (inB_iff (n := ix xs i) (lo := 1) (hi := 60))
        obtain ⟨X, hX⟩ : ∃ X, ix xs i = X := ⟨_, rfl⟩
        rw [hX] at x1 HSt HII
        clear hX
        by_cases q1 : X < 1
        · have HF := Lib.hid (show fitsB D xs = false by
            rw [HFIN.out, ← Hi.out, HSt.out, show inB X 1 60 = false from Bool.eq_false_iff.2 fun q => by have := HII.out.1 q; omega]; rfl)
          go_wp2
          go_ret
          exact ⟨ret_bool HF.out.symm, _, by first | rfl | exact drewN_add _ _ _⟩
        · by_cases q2 : 60 < X
          · have HF := Lib.hid (show fitsB D xs = false by
              rw [HFIN.out, ← Hi.out, HSt.out, show inB X 1 60 = false from Bool.eq_false_iff.2 fun q => by have := HII.out.1 q; omega]; rfl)
            go_wp2
            go_ret
            exact ⟨ret_bool HF.out.symm, _, by first | rfl | exact drewN_add _ _ _⟩
          · have HG := Lib.hid (HII.out.2 ⟨by omega, by omega⟩)
            go_wp2
            go_roundg gi
            case measure => omega
            case rel => exact ⟨i + 1, _, by omega, by go_num, by first | rfl | exact drewN_0 _ | exact drewN_add _ _ _, Lib.hid (by rw [← Hi.out, HSt.out, HG.out, Bool.true_and])⟩
      · have hini' : ¬ (i : Int) < (D.length : Nat) := by omega
        obtain rfl : gk = 0 := by omega
        have HIT := Lib.hid (show pfI D xs = true by rw [← Hi.out]; rfl)
        have HIN := Lib.hid (fun k (hk : k < D.length) => inB_iff.1 (HALL.out.1 (HPI.out.symm.trans HIT.out) k hk))
        have HF2 := Lib.hid (show fitsB D xs = pfA D xs by rw [HFIN.out, HIT.out, Bool.true_and])
        clear Hi HSi HFIN HALL
        go_wp2
        go_loopg [41] (D.length) (fun g s41 wr => ∃ (k m : Nat), k + g = D.length ∧ s41 = .int .i64 k ∧ wr = w.drewN m ∧ Hid (allR (fun k => allR (fun j => pfC D xs k j) D.length 0) g k = pfA D xs))
        case atStart => exact ⟨0, _, by omega, rfl, by first | rfl | exact drewN_0 _ | exact drewN_add _ _ _, Lib.hid (HPA.out.symm)⟩
        case round =>
          obtain ⟨k, mk, hk, rfl, rfl, Hk⟩ := hrel
          by_cases hink : k < D.length
          · obtain ⟨gk, rfl⟩ : ∃ g', gk = g' + 1 := ⟨gk - 1, by omega⟩
            have hink' : (k : Int) < (D.length : Nat) := by omega
            have x1 := HX.out k hink
            obtain ⟨a0, a1⟩ := HIN.out k hink
            have HWk0 := Lib.hid (HW.out k)
            obtain ⟨X, hX⟩ : ∃ X, ix xs k = X := ⟨_, rfl⟩
            rw [hX] at x1 a0 a1 HWk0
            clear hX
            go_wp2
            go_loopg [48] (D.length) (fun g s48 wr => ∃ (j m : Nat), j + g = D.length ∧ s48 = .int .i64 j ∧ wr = w.drewN m ∧ Hid (allR (fun j => pfC D xs k j) g j = allR (fun j => pfC D xs k j) D.length 0))
            case atStart => exact ⟨0, _, by omega, rfl, by first | rfl | exact drewN_0 _ | exact drewN_add _ _ _, Lib.hid (rfl)⟩
            case round =>
              obtain ⟨j, mj, hj, rfl, rfl, Hj⟩ := hrel
              by_cases hinj : j < D.length
              · obtain ⟨gj, rfl⟩ : ∃ g', gk = g' + 1 := ⟨gk - 1, by omega⟩
                have hinj' : (j : Int) < (D.length : Nat) := by omega
                have r1 := HROW.out k hink
                have hl1 := (HLEN.out k hink).1
                have c1 := HCE.out k hink j hinj
                obtain ⟨p1, p2, -, -⟩ := HBD.out k hink j hinj
                have x2 := HX.out j hinj
                obtain ⟨b0, b1⟩ := HIN.out j hinj
                have HWk := Lib.hid (HWk0.out j)
                have HSt := Lib.hid (HSj.out gj k j)
                obtain ⟨Y, hY⟩ : ∃ Y, ix xs j = Y := ⟨_, rfl⟩
                obtain ⟨Z, hZ⟩ : ∃ Z, at2 D k j = Z := ⟨_, rfl⟩
                rw [hY] at x2 HWk b0 b1
                rw [hZ] at c1 HWk p1 p2
                clear hY hZ
                have HBAD := Lib.hid (fun (q : pfC D xs k j = false) => show fitsB D xs = false by rw [HF2.out, ← Hk.out, HSk.out, ← Hj.out, HSt.out, q, Bool.false_and, Bool.false_and])
                have HGOOD := Lib.hid (fun (q : pfC D xs k j = true) => show allR (fun j => pfC D xs k j) gj (j + 1) = allR (fun j => pfC D xs k j) D.length 0 by rw [← Hj.out, HSt.out, q, Bool.true_and])
                by_cases h1 : Z < X - Y
                · have HF := Lib.hid (HBAD.out (by rw [HWk.out, decide_eq_false (show ¬ X - Y ≤ Z by omega)]; rfl))
                  go_wp2
                  go_ret
                  exact ⟨ret_bool HF.out.symm, _, by first | rfl | exact drewN_add _ _ _⟩
                · rw [decide_eq_true (show X - Y ≤ Z by omega), Bool.true_and] at HWk
                  by_cases hkj : k = j
                  · have hkj' : ((k : Int) != (j : Int)) = false := by simp; omega
                    have HG := Lib.hid (HGOOD.out (by rw [HWk.out, decide_eq_true hkj]; rfl))
                    clear hkj
                    go_wp2
                    go_roundg gj
                    case measure => omega
                    case rel => exact ⟨j + 1, _, by omega, by go_num, by first | rfl | exact drewN_0 _ | exact drewN_add _ _ _, Lib.hid (by exact HG.out)⟩
                  · have hkj' : ((k : Int) != (j : Int)) = true := by simp; omega
                    rw [decide_eq_false hkj, Bool.false_or] at HWk
                    clear hkj
                    by_cases h2 : X + Y < Z
                    · have HF := Lib.hid (HBAD.out (by rw [HWk.out, decide_eq_false (by omega)]))
                      go_wp2
                      go_ret
                      exact ⟨ret_bool HF.out.symm, _, by first | rfl | exact drewN_add _ _ _⟩
                    · have HG := Lib.hid (HGOOD.out (by rw [HWk.out, decide_eq_true (by omega)]))
                      go_wp2
                      go_roundg gj
                      case measure => omega
                      case rel => exact ⟨j + 1, _, by omega, by go_num, by first | rfl | exact drewN_0 _ | exact drewN_add _ _ _, Lib.hid (by exact HG.out)⟩
              · have hinj' : ¬ (j : Int) < (D.length : Nat) := by omega
                obtain rfl : gk = 0 := by omega
                have HT := Lib.hid (show allR (fun j => pfC D xs k j) D.length 0 = true by rw [← Hj.out]; rfl)
                go_wp2
                go_roundg gk
                case measure => omega
                case rel => exact ⟨k + 1, _, by omega, by go_num, by first | rfl | exact drewN_0 _ | exact drewN_add _ _ _, Lib.hid (by rw [← Hk.out, HSk.out, HT.out, Bool.true_and])⟩
          · have hink' : ¬ (k : Int) < (D.length : Nat) := by omega
            obtain rfl : gk = 0 := by omega
            go_wp2
            go_ret
            exact ⟨ret_bool (by rw [HF2.out, ← Hk.out]; rfl), _, by first | rfl | exact drewN_add _ _ _⟩
end Go.Proofs.YtnalcgcdohlfiaaGreatDoor
namespace Go.Proofs.YtnalcgcdohlfiaaGreatDoor
open Go.RowKit
def wpV (D : List (List Int)) (xs : List Int) : List (List Int) := ((List.range D.length).map fun i => row D i ++ [ix xs i]) ++ [xs ++ [0]]
def wpB (D : List (List Int)) (xs : List Int) : List (List Int) := if fitsB D xs = true then wpV D xs else []
def TupR (w : World) (E : List (List Int)) (b : Bool) (e : Ending) (w' : World) : Prop := ∃ v, e = .returned (.tuple #[v, .bool b]) ∧ AccR w w' v E
theorem wpV_len (D : List (List Int)) (xs : List Int) : (wpV D xs).length = D.length + 1 := by simp [wpV]
theorem wpV_row {D : List (List Int)} {xs : List Int} {i : Nat} (hi : i < D.length) : row (wpV D xs) i = row D i ++ [ix xs i] := by
  rw [row_of (by rw [wpV_len]; omega)]
  unfold wpV
  rw [List.getElem_append_left (by simpa using hi)]
  simp
theorem wpV_last (D : List (List Int)) (xs : List Int) : row (wpV D xs) D.length = xs ++ [0] := by
  rw [row_of (by rw [wpV_len]; omega)]
  unfold wpV
  rw [List.getElem_append_right (by simp)]
  simp
theorem appIn_run {P : Program} {w0 W : World} {T E ty : TypeId} (hE : E = 3)
    (ht : P.underlying T = some (.slice E)) (hinfo : (P.info? E).map (fun i => (i.zero, i.size, i.bytes)) = some (some (.int .i64 0), 1, 8))
    {v : Value} {ys xs : List Int} {A : Option Addr} {c n : Nat} (hn : xs.length = n) (hX : Acc w0 W E v (ys.map (Value.int .i64))) (hI : Ints W A c xs) (hlen : ys.length + xs.length ≤ 10000000) :
    ∃ v' w', (Builtin.append_ #[T, T] ty #[v, .slice A n c]).run P W = .ok v' w' ∧ (Acc w0 w' E v' ((ys ++ xs).map (Value.int .i64)) ∧ Beside v W w' ∧ Stays v v' W.heap.size) := by
  subst hn
  exact appI_run hE ht hinfo hX hI hlen
theorem fits_parts {D : List (List Int)} {xs : List Int} (h : fitsB D xs = true) : spB D = true ∧ D.length < 6 ∧ xs.length = D.length ∧ pfI D xs = true ∧ pfA D xs = true := by
  unfold fitsB at h
  rw [Bool.and_eq_true, Bool.and_eq_true, Bool.and_eq_true] at h
  obtain ⟨⟨h1, h2⟩, h3, h4⟩ := h
  have h2 := of_decide_eq_true h2
  exact ⟨h1, h2.1, h2.2, h3, h4⟩
set_option maxRecDepth 100000 in
set_option maxHeartbeats 4000000 in
theorem sWithPoint_ex (A : Option Addr) (cp : Nat) (D : List (List Int)) (B : Option Addr) (cq : Nat) (xs : List Int) (w : World) (h : Mat w A cp D) (hx : Ints w B cq xs) :
    Calls Tryz.prog 84 #[.slice A D.length cp, .slice B xs.length cq] w (TupR w (wpB D xs) (fitsB D xs)) := by
  have hcm := h.2.1
  have hlc := h.1
  unfold maxLen at hcm
  have hcx := hx.2.1
  have hlx := hx.1
  unfold maxLen at hcx
  have HM := Lib.hid h
  have HI := Lib.hid hx
  have HC := Lib.hid (sPointFits_ex A cp D B cq xs w h hx)
  have HD := Lib.hid (show wpB D xs = if fitsB D xs = true then wpV D xs else [] from rfl)
  clear h hx
  cases hb : fitsB D xs with
  | false =>
    have HF := Lib.hid (show wpB D xs = [] by rw [HD.out, hb]; rfl)
    rw [hb] at HC
    clear hb
    go_enter Tryz.func84, Tryz.ntmps84
    go_wp2_with fail
    refine HC.out.mono ?_
    rintro e w1 ⟨rfl, m1, rfl⟩
    go_wp2
    go_ret2
    rw [HF.out]
    exact ⟨_, rfl, AccR.empty (by repeat (first | exact Ext.refl _ | assumption | apply Ext.drewN' | apply Ext.alloc' | refine Ext.trans ?_ (by assumption)))⟩
  | true =>
    have HF := Lib.hid (show wpB D xs = wpV D xs by rw [HD.out, hb]; rfl)
    obtain ⟨hs, h6, hl, -, -⟩ := fits_parts hb
    rw [hb] at HC
    obtain ⟨⟨hn1, hn6⟩, hsq, hcells⟩ := farB_parts (spB_far hs)
    obtain ⟨bk, o, rc, rb, ro, hA, hrow, hlen, hcell, hints⟩ := HM.out.square hsq
    obtain rfl := hA (by omega)
    obtain ⟨-, -, b2, o2, hB, hc2⟩ := HI.out
    obtain rfl := hB (by omega)
    rw [hl] at hc2
    have HROW := Lib.hid hrow
    have HLEN := Lib.hid hlen
    have HX := Lib.hid hc2
    have HXL := Lib.hid hl
    have HSQ := Lib.hid hsq
    have HIN := Lib.hid hints
    have HWL := Lib.hid (wpV_len D xs)
    have HTR := Lib.hid (fun i (hi : i < D.length + 1) => take_row (D := wpV D xs) (i := i) (by rw [wpV_len]; exact hi))
    have HTF := Lib.hid (show (wpV D xs).take (D.length + 1) = wpV D xs from List.take_of_length_le (by rw [wpV_len]; exact Nat.le_refl _))
    have HRW := Lib.hid (fun i (hi : i < D.length) => wpV_row (xs := xs) hi)
    have HRL := Lib.hid (wpV_last D xs)
    have HBD := Lib.hid (fun i => show ((wpV D xs).take i).length ≤ 7 by rw [List.length_take, wpV_len]; omega)
    obtain ⟨n, hn⟩ : ∃ n, D.length = n := ⟨_, rfl⟩
    rw [hn] at hl hlc HROW HLEN HX HXL HIN HTR HTF HRW HRL hn1 hn6 h6
    have HSL := Lib.hid (fun i (hi : i < n) => show (row D i).length = n by rw [HSQ.out i (by omega), hn])
    rw [hl] at hlx
    rw [hl, hn]
    obtain ⟨E, hE⟩ : ∃ E, wpV D xs = E := ⟨_, rfl⟩
    rw [hE] at HTR HTF HRW HRL HF HBD
    rw [hl, hn] at HC
    clear hs hb hsq hcells hrow hlen hcell hB hc2 hn hE HM hints hl HSQ HD
    go_enter Tryz.func84, Tryz.ntmps84
    go_wp2_with fail
    refine HC.out.mono ?_
    rintro e w1 ⟨rfl, m1, rfl⟩
    go_wp2
    go_loopg [7, 6] n (fun g s7 s6 wr => ∃ (k : Nat), k + g = n ∧ s7 = .int .i64 k ∧ Hid (AccR w wr s6 (E.take k)))
    case atStart => exact ⟨0, by omega, rfl, Lib.hid (by rw [List.take_zero]; exact AccR.empty (Ext.drewN' (Ext.refl _) _))⟩
    case round =>
      obtain ⟨k, hk, rfl, HR⟩ := hrel
      have hxr := HR.out.x
      by_cases hin : k < n
      · obtain ⟨g', rfl⟩ : ∃ g', gk = g' + 1 := ⟨gk - 1, by omega⟩
        have hin' : (k : Int) < (n : Nat) := by omega
        have hl1 := (HLEN.out k hin).1
        have HTk := Lib.hid (HTR.out k (by omega))
        rw [HRW.out k hin] at HTk
        have hbd := HBD.out k
        have HIk := Lib.hid (HIN.out k hin)
        have HLK := Lib.hid (HSL.out k hin)
        obtain ⟨Y, hY⟩ : ∃ Y, ix xs k = Y := ⟨_, rfl⟩
        rw [hY] at HTk
        have HK2 := Lib.hid (fun W (q : Ext w W) => (show W.cell? ⟨bk, o + k, none⟩ = some (.slice (some ⟨rb k, ro k, none⟩) n (rc k)) ∧ W.cell? ⟨b2, o2 + k, none⟩ = some (.int .i64 Y) from ⟨q.cell (HROW.out k hin), by rw [← hY]; exact q.cell (HX.out k hin)⟩))
        obtain ⟨r, hr⟩ : ∃ r, row D k = r := ⟨_, rfl⟩
        obtain ⟨acc, hacc⟩ : ∃ r, E.take k = r := ⟨_, rfl⟩
        rw [hr] at HTk HIk HLK
        rw [hacc] at HTk hbd HR
        clear hY hr hacc
        have HWR := Lib.hid hxr
        go_wp2_with fail
        go_region_held3 (fun W => W.cell? ⟨bk, o + k, none⟩ = some (.slice (some ⟨rb k, ro k, none⟩) n (rc k)) ∧ W.cell? ⟨b2, o2 + k, none⟩ = some (.int .i64 Y))
          (exact HK2.out _ (by repeat (first | assumption | with_reducible exact Ext.refl _ | with_reducible apply Ext.drew' | with_reducible apply Ext.drewN' | with_reducible apply Ext.alloc')))
          (first
            | ((fail_if_success (have hq := hA26)); refine step_ex rfl _ _ rfl (.slice (some ⟨_, 0, none⟩) 0 0) _ rfl rfl (appIn_run (w0 := wr) (ys := []) rfl Tryz.underlying47 infoI HLK.out (accNew (by repeat (first | assumption | with_reducible exact Ext.refl _ | with_reducible apply Ext.drew' | with_reducible apply Ext.drewN' | with_reducible apply Ext.alloc')) (by first | with_reducible exact blk_one _ _ | with_reducible exact blk_first _ _ _ | with_reducible exact blk_second _ _ _ | with_reducible exact heap_alloc_new _ _) (by first | omega | simp)) (HIk.out.ext (HWR.out.trans (by repeat (first | assumption | with_reducible exact Ext.refl _ | with_reducible apply Ext.drew' | with_reducible apply Ext.drewN' | with_reducible apply Ext.alloc')))) (by simp [HLK.out]; omega)) ?_; rintro v26 W26 ⟨hA26, hB26, hS26⟩; rw [List.nil_append] at hA26; have hx26 := hA26.x; have hx26w := HWR.out.trans hx26)
            | ((fail_if_success (have hq := hA32)); refine step_ex rfl _ _ rfl v26 (.slice (some ⟨_, 0, none⟩) 1 1) rfl rfl (app_run (w0 := wr) Tryz.underlying47 infoI rfl (by decide) v26 (r.map (Value.int .i64)) ⟨_, 0, none⟩ 1 1 [.int .i64 Y] rfl (one_news (by first | with_reducible exact cell_new0 _ _ _ | exact cell_beside hB26 (by first | with_reducible exact blk_one _ _ | with_reducible exact blk_first _ _ _ | with_reducible exact blk_second _ _ _) (by simp [Value.ownBlock]; done)) rfl) (map_one [Y]) (hA26.on (by first | with_reducible exact Ext.refl _ | with_reducible exact Ext.alloc _ _)) (by simp [HLK.out]; omega)) ?_; rintro v32 W32 ⟨hA32', hB32, hS32⟩; have hA32 : Acc wr W32 3 v32 ((r ++ [Y]).map (Value.int .i64)) := (by rw [List.map_append]; exact hA32'); obtain ⟨Ar, cr, hv32, -⟩ := (Leaf.of_own hA32.2).1.ints; obtain ⟨L, hL⟩ : ∃ L, (r ++ [Y]).length = L := ⟨_, rfl⟩; rw [hL] at hv32; subst hv32; clear hL; have hx32 := hA32.x; have hx32w := HWR.out.trans hx32; clear hA32')
            | (refine step_ex rfl _ _ rfl _ (.slice (some ⟨_, 0, none⟩) 1 1) rfl rfl (accR_run (u := .slice Ar L cr) rfl Tryz.underlying23 infoR ⟨_, 0, none⟩ 1 rfl HR.out hA32 (Ext.alloc _ _) (cell_new0 _ _ _) (by omega)) ?_; rintro v34 W34 hR34; have hx34w := hR34.x))
        all_goals
          go_wp2
          go_roundg g'
          case measure => omega
          case rel => exact ⟨k + 1, by omega, by go_num, Lib.hid (by rw [HTk.out]; exact hR34)⟩
      · have hin' : ¬ (k : Int) < (n : Nat) := by omega
        obtain rfl : gk = 0 := by omega
        obtain rfl : k = n := by omega
        have HTk := Lib.hid (HTR.out k (by omega))
        rw [HRL.out, HTF.out] at HTk
        have hbd := HBD.out k
        obtain ⟨acc, hacc⟩ : ∃ r, E.take k = r := ⟨_, rfl⟩
        rw [hacc] at HTk hbd HR
        have HIx := Lib.hid (show Ints wr (some ⟨b2, o2, none⟩) cq xs from HI.out.ext hxr)
        clear HROW HLEN HX HIN hacc HRW HTR HBD
        go_wp2_with (first
          | (at_builtin; (fail_if_success (have hq := hA26)); refine wpList_ex rfl _ _ rfl (.slice (some ⟨_, 0, none⟩) 0 0) _ rfl rfl (appIn_run (w0 := wr) (ys := []) rfl Tryz.underlying47 infoI HXL.out (accNew (Ext.alloc _ _) (heap_alloc_new _ _) (Nat.le_refl _)) (HIx.out.ext (Ext.alloc _ _)) (by simp [HXL.out]; omega)) ?_; rintro v26 W26 ⟨hA26, hB26, hS26⟩; rw [List.nil_append] at hA26)
          | (at_builtin; (fail_if_success (have hq := hA32)); refine wpList_ex rfl _ _ rfl v26 (.slice (some ⟨_, 0, none⟩) 1 1) rfl rfl (app_run (w0 := wr) Tryz.underlying47 infoI rfl (by decide) v26 (xs.map (Value.int .i64)) ⟨_, 0, none⟩ 1 1 [.int .i64 0] rfl (one_news (cell_new0 _ _ _) rfl) (map_one [0]) (hA26.on (Ext.alloc _ _)) (by simp [HXL.out]; omega)) ?_; rintro v32 W32 ⟨hA32', hB32, hS32⟩; have hA32 : Acc wr W32 3 v32 ((xs ++ [0]).map (Value.int .i64)) := (by rw [List.map_append]; exact hA32'); obtain ⟨Ar, cr, hv32, -⟩ := (Leaf.of_own hA32.2).1.ints; obtain ⟨L, hL⟩ : ∃ L, (xs ++ [0]).length = L := ⟨_, rfl⟩; rw [hL] at hv32; subst hv32; clear hL hA32')
          | (at_builtin; refine wpList_ex rfl _ _ rfl _ (.slice (some ⟨_, 0, none⟩) 1 1) rfl rfl (accR_run (u := .slice Ar L cr) rfl Tryz.underlying23 infoR ⟨_, 0, none⟩ 1 rfl HR.out hA32 (Ext.alloc _ _) (cell_new0 _ _ _) (by omega)) ?_; rintro v34 W34 hR34; have hx34w := hR34.x))
        obtain ⟨A9, c9, hv9, hM9⟩ := hR34.mat
        obtain ⟨K, hK⟩ : ∃ K, (acc ++ [xs ++ [0]]).length = K := ⟨_, rfl⟩
        rw [hK] at hv9
        subst hv9
        go_wp2
        go_ret2
        rw [HF.out, HTk.out]
        exact ⟨_, rfl, hR34⟩
set_option maxRecDepth 100000 in
set_option maxHeartbeats 4000000 in
theorem iWithPoint_any (A : Option Addr) (cp : Nat) (D : List (List Int)) (B : Option Addr) (cq : Nat) (xs : List Int) (w : World) (h : Mat w A cp D) (hx : Ints w B cq xs) :
    Calls Tryz.prog 90 #[.slice A D.length cp, .slice B xs.length cq] w (TupR w (wpB D xs) (fitsB D xs)) := by
  have hcm := h.2.1
  have hlc := h.1
  unfold maxLen at hcm
  have hcx := hx.2.1
  have hlx := hx.1
  unfold maxLen at hcx
  have HM := Lib.hid h
  have HI := Lib.hid hx
  have HC := Lib.hid (pointFits_any A cp D B cq xs w h hx)
  have HD := Lib.hid (show wpB D xs = if fitsB D xs = true then wpV D xs else [] from rfl)
  clear h hx
  cases hb : fitsB D xs with
  | false =>
    have HF := Lib.hid (show wpB D xs = [] by rw [HD.out, hb]; rfl)
    rw [hb] at HC
    clear hb
    go_enter Tryz.func90, Tryz.ntmps90
    go_wp2_with fail
    refine HC.out.mono ?_
    rintro e w1 ⟨rfl, m1, rfl⟩
    go_wp2
    go_ret2
    rw [HF.out]
    exact ⟨_, rfl, AccR.nil (by repeat (first | exact Ext.refl _ | assumption | apply Ext.drewN' | apply Ext.alloc' | refine Ext.trans ?_ (by assumption)))⟩
  | true =>
    have HF := Lib.hid (show wpB D xs = wpV D xs by rw [HD.out, hb]; rfl)
    obtain ⟨hs, h6, hl, -, -⟩ := fits_parts hb
    rw [hb] at HC
    obtain ⟨⟨hn1, hn6⟩, hsq, hcells⟩ := farB_parts (spB_far hs)
    obtain ⟨bk, o, rc, rb, ro, hA, hrow, hlen, hcell, hints⟩ := HM.out.square hsq
    obtain rfl := hA (by omega)
    obtain ⟨-, -, b2, o2, hB, hc2⟩ := HI.out
    obtain rfl := hB (by omega)
    rw [hl] at hc2
    have HROW := Lib.hid hrow
    have HLEN := Lib.hid hlen
    have HX := Lib.hid hc2
    have HXL := Lib.hid hl
    have HSQ := Lib.hid hsq
    have HIN := Lib.hid hints
    have HWL := Lib.hid (wpV_len D xs)
    have HTR := Lib.hid (fun i (hi : i < D.length + 1) => take_row (D := wpV D xs) (i := i) (by rw [wpV_len]; exact hi))
    have HTF := Lib.hid (show (wpV D xs).take (D.length + 1) = wpV D xs from List.take_of_length_le (by rw [wpV_len]; exact Nat.le_refl _))
    have HRW := Lib.hid (fun i (hi : i < D.length) => wpV_row (xs := xs) hi)
    have HRL := Lib.hid (wpV_last D xs)
    have HBD := Lib.hid (fun i => show ((wpV D xs).take i).length ≤ 7 by rw [List.length_take, wpV_len]; omega)
    obtain ⟨n, hn⟩ : ∃ n, D.length = n := ⟨_, rfl⟩
    rw [hn] at hl hlc HROW HLEN HX HXL HIN HTR HTF HRW HRL hn1 hn6 h6
    have HSL := Lib.hid (fun i (hi : i < n) => show (row D i).length = n by rw [HSQ.out i (by omega), hn])
    rw [hl] at hlx
    rw [hl, hn]
    obtain ⟨E, hE⟩ : ∃ E, wpV D xs = E := ⟨_, rfl⟩
    rw [hE] at HTR HTF HRW HRL HF HBD
    rw [hl, hn] at HC
    clear hs hb hsq hcells hrow hlen hcell hB hc2 hn hE HM hints hl HSQ HD
    go_enter Tryz.func90, Tryz.ntmps90
    go_wp2_with fail
    refine HC.out.mono ?_
    rintro e w1 ⟨rfl, m1, rfl⟩
    go_wp2
    go_loopg [16, 6] n (fun g s16 s6 wr => ∃ (k : Nat), k + g = n ∧ s16 = .int .i64 k ∧ Hid (AccR w wr s6 (E.take k)))
    case atStart => exact ⟨0, by omega, rfl, Lib.hid (by rw [List.take_zero]; exact AccR.empty (Ext.drewN' (Ext.refl _) _))⟩
    case round =>
      obtain ⟨k, hk, rfl, HR⟩ := hrel
      have hxr := HR.out.x
      by_cases hin : k < n
      · obtain ⟨g', rfl⟩ : ∃ g', gk = g' + 1 := ⟨gk - 1, by omega⟩
        have hin' : (k : Int) < (n : Nat) := by omega
        have hl1 := (HLEN.out k hin).1
        have HTk := Lib.hid (HTR.out k (by omega))
        rw [HRW.out k hin] at HTk
        have hbd := HBD.out k
        have HIk := Lib.hid (HIN.out k hin)
        have HLK := Lib.hid (HSL.out k hin)
        obtain ⟨Y, hY⟩ : ∃ Y, ix xs k = Y := ⟨_, rfl⟩
        rw [hY] at HTk
        have c1 := hxr.cell (HROW.out k hin)
        have HK2 := Lib.hid (fun W (q : Ext w W) => (show W.cell? ⟨b2, o2 + k, none⟩ = some (.int .i64 Y) from by rw [← hY]; exact q.cell (HX.out k hin)))
        obtain ⟨r, hr⟩ : ∃ r, row D k = r := ⟨_, rfl⟩
        obtain ⟨acc, hacc⟩ : ∃ r, E.take k = r := ⟨_, rfl⟩
        rw [hr] at HTk HIk HLK
        rw [hacc] at HTk hbd HR
        clear hY hr hacc
        have HWR := Lib.hid hxr
        go_wp2_with fail
        go_region_held3 (fun W => W.cell? ⟨b2, o2 + k, none⟩ = some (.int .i64 Y))
          (exact HK2.out _ (by repeat (first | assumption | with_reducible exact Ext.refl _ | with_reducible apply Ext.drew' | with_reducible apply Ext.drewN' | with_reducible apply Ext.alloc')))
          (first
            | ((fail_if_success (have hq := hA26)); refine step_ex rfl _ _ rfl (.slice (some ⟨_, 0, none⟩) 0 0) _ rfl rfl (appIn_run (w0 := wr) (ys := []) rfl Tryz.underlying47 infoI HLK.out (accNew (by repeat (first | assumption | with_reducible exact Ext.refl _ | with_reducible apply Ext.drew' | with_reducible apply Ext.drewN' | with_reducible apply Ext.alloc')) (by first | with_reducible exact blk_one _ _ | with_reducible exact blk_first _ _ _ | with_reducible exact blk_second _ _ _ | with_reducible exact heap_alloc_new _ _) (by first | omega | simp)) (HIk.out.ext (HWR.out.trans (by repeat (first | assumption | with_reducible exact Ext.refl _ | with_reducible apply Ext.drew' | with_reducible apply Ext.drewN' | with_reducible apply Ext.alloc')))) (by simp [HLK.out]; omega)) ?_; rintro v26 W26 ⟨hA26, hB26, hS26⟩; rw [List.nil_append] at hA26; have hx26 := hA26.x; have hx26w := HWR.out.trans hx26)
            | ((fail_if_success (have hq := hA32)); refine step_ex rfl _ _ rfl v26 (.slice (some ⟨_, 0, none⟩) 1 1) rfl rfl (app_run (w0 := wr) Tryz.underlying47 infoI rfl (by decide) v26 (r.map (Value.int .i64)) ⟨_, 0, none⟩ 1 1 [.int .i64 Y] rfl (one_news (by first | with_reducible exact cell_new0 _ _ _ | exact cell_beside hB26 (by first | with_reducible exact blk_one _ _ | with_reducible exact blk_first _ _ _ | with_reducible exact blk_second _ _ _) (by simp [Value.ownBlock]; done)) rfl) (map_one [Y]) (hA26.on (by first | with_reducible exact Ext.refl _ | with_reducible exact Ext.alloc _ _)) (by simp [HLK.out]; omega)) ?_; rintro v32 W32 ⟨hA32', hB32, hS32⟩; have hA32 : Acc wr W32 3 v32 ((r ++ [Y]).map (Value.int .i64)) := (by rw [List.map_append]; exact hA32'); obtain ⟨Ar, cr, hv32, -⟩ := (Leaf.of_own hA32.2).1.ints; obtain ⟨L, hL⟩ : ∃ L, (r ++ [Y]).length = L := ⟨_, rfl⟩; rw [hL] at hv32; subst hv32; clear hL; have hx32 := hA32.x; have hx32w := HWR.out.trans hx32; clear hA32')
            | (refine step_ex rfl _ _ rfl _ (.slice (some ⟨_, 0, none⟩) 1 1) rfl rfl (accR_run (u := .slice Ar L cr) rfl Tryz.underlying23 infoR ⟨_, 0, none⟩ 1 rfl HR.out hA32 (Ext.alloc _ _) (cell_new0 _ _ _) (by omega)) ?_; rintro v34 W34 hR34; have hx34w := hR34.x))
        all_goals
          go_wp2
          go_roundg g'
          case measure => omega
          case rel => exact ⟨k + 1, by omega, by go_num, Lib.hid (by rw [HTk.out]; exact hR34)⟩
      · have hin' : ¬ (k : Int) < (n : Nat) := by omega
        obtain rfl : gk = 0 := by omega
        obtain rfl : k = n := by omega
        have HTk := Lib.hid (HTR.out k (by omega))
        rw [HRL.out, HTF.out] at HTk
        have hbd := HBD.out k
        obtain ⟨acc, hacc⟩ : ∃ r, E.take k = r := ⟨_, rfl⟩
        rw [hacc] at HTk hbd HR
        have HIx := Lib.hid (show Ints wr (some ⟨b2, o2, none⟩) cq xs from HI.out.ext hxr)
        clear HROW HLEN HX HIN hacc HRW HTR HBD
        go_wp2_with (first
          | (at_builtin; (fail_if_success (have hq := hA26)); refine wpList_ex rfl _ _ rfl (.slice (some ⟨_, 0, none⟩) 0 0) _ rfl rfl (appIn_run (w0 := wr) (ys := []) rfl Tryz.underlying47 infoI HXL.out (accNew (Ext.alloc _ _) (heap_alloc_new _ _) (Nat.le_refl _)) (HIx.out.ext (Ext.alloc _ _)) (by simp [HXL.out]; omega)) ?_; rintro v26 W26 ⟨hA26, hB26, hS26⟩; rw [List.nil_append] at hA26)
          | (at_builtin; (fail_if_success (have hq := hA32)); refine wpList_ex rfl _ _ rfl v26 (.slice (some ⟨_, 0, none⟩) 1 1) rfl rfl (app_run (w0 := wr) Tryz.underlying47 infoI rfl (by decide) v26 (xs.map (Value.int .i64)) ⟨_, 0, none⟩ 1 1 [.int .i64 0] rfl (one_news (cell_new0 _ _ _) rfl) (map_one [0]) (hA26.on (Ext.alloc _ _)) (by simp [HXL.out]; omega)) ?_; rintro v32 W32 ⟨hA32', hB32, hS32⟩; have hA32 : Acc wr W32 3 v32 ((xs ++ [0]).map (Value.int .i64)) := (by rw [List.map_append]; exact hA32'); obtain ⟨Ar, cr, hv32, -⟩ := (Leaf.of_own hA32.2).1.ints; obtain ⟨L, hL⟩ : ∃ L, (xs ++ [0]).length = L := ⟨_, rfl⟩; rw [hL] at hv32; subst hv32; clear hL hA32')
          | (at_builtin; refine wpList_ex rfl _ _ rfl _ (.slice (some ⟨_, 0, none⟩) 1 1) rfl rfl (accR_run (u := .slice Ar L cr) rfl Tryz.underlying23 infoR ⟨_, 0, none⟩ 1 rfl HR.out hA32 (Ext.alloc _ _) (cell_new0 _ _ _) (by omega)) ?_; rintro v34 W34 hR34; have hx34w := hR34.x))
        obtain ⟨A9, c9, hv9, hM9⟩ := hR34.mat
        obtain ⟨K, hK⟩ : ∃ K, (acc ++ [xs ++ [0]]).length = K := ⟨_, rfl⟩
        rw [hK] at hv9
        subst hv9
        go_wp2
        go_ret2
        rw [HF.out, HTk.out]
        exact ⟨_, rfl, hR34⟩
end Go.Proofs.YtnalcgcdohlfiaaGreatDoor
namespace Go.Proofs.YtnalcgcdohlfiaaGreatDoor
open Go.RowKit Go.Sort
def woOk (D : List (List Int)) (p : Int) : Bool := pointB D p && decide (2 ≤ D.length)
def woV (D : List (List Int)) (p : Nat) : List (List Int) := (D.eraseIdx p).map fun r => r.eraseIdx p
def woB (D : List (List Int)) (p : Int) : List (List Int) := if woOk D p = true then woV D p.toNat else []
theorem erase_step {T : Type} (xs : List T) (p j : Nat) (hj : j < xs.length) : (xs.take (j + 1)).eraseIdx p = if j = p then (xs.take j).eraseIdx p else (xs.take j).eraseIdx p ++ [xs[j]] := by
  rw [List.take_succ_eq_append_getElem hj]
  have hl : (xs.take j).length = j := by rw [List.length_take]; omega
  by_cases h : j < p
  · rw [if_neg (by omega), List.eraseIdx_of_length_le (by simp; omega), List.eraseIdx_of_length_le (by omega)]
  · by_cases e : j = p
    · subst e
      rw [if_pos rfl, List.eraseIdx_append_of_length_le (by omega), hl, List.eraseIdx_of_length_le (l := xs.take j) (by omega), Nat.sub_self]
      simp
    · rw [if_neg e, List.eraseIdx_append_of_lt_length (by omega)]
theorem erase_ix {xs : List Int} {p j : Nat} (hj : j < xs.length) : (xs.take (j + 1)).eraseIdx p = if j = p then (xs.take j).eraseIdx p else (xs.take j).eraseIdx p ++ [ix xs j] := by
  rw [erase_step xs p j hj, ix_of hj]
def woK (D : List (List Int)) (p i : Nat) : List (List Int) := ((D.take i).eraseIdx p).map fun r => r.eraseIdx p
theorem woK_step {D : List (List Int)} {p i : Nat} (hi : i < D.length) : woK D p (i + 1) = if i = p then woK D p i else woK D p i ++ [(row D i).eraseIdx p] := by
  unfold woK
  rw [erase_step D p i hi]
  by_cases e : i = p
  · rw [if_pos e, if_pos e]
  · rw [if_neg e, if_neg e, List.map_append, row_of hi]
    rfl
theorem woK_all (D : List (List Int)) (p : Nat) : woK D p D.length = woV D p := by
  unfold woK woV
  rw [List.take_of_length_le (Nat.le_refl _)]
theorem woK_zero (D : List (List Int)) (p : Nat) : woK D p 0 = [] := by simp [woK]
theorem woK_len (D : List (List Int)) (p i : Nat) : (woK D p i).length ≤ i := by
  unfold woK
  rw [List.length_map]
  exact Nat.le_trans (List.length_eraseIdx_le _ _) (by rw [List.length_take]; omega)
theorem grow_none (w : World) : grow w #[] = w := by simp [grow]
theorem own_cut {w : World} {base : Nat} {e : TypeId} {A : Option Addr} {n c : Nat} {xs : List Value} (h : w.ownsRow base e 1 (.slice A n c) n xs) (m : Nat) (hm : m ≤ n) (h0 : 0 < n) : w.ownsRow base e 1 (.slice A m c) m (xs.take m) := by
  obtain ⟨h1, h2⟩ := h
  rcases h2 with ⟨he, h3⟩ | ⟨g, cap, cur, e1, e2, e3, e4, e5, e6, e7⟩
  · omega
  · refine ⟨by rw [List.length_take]; omega, .inr ⟨g, cap, cur, ?_, e2, e3, by omega, e5, e6, ?_⟩⟩
    · injection e1 with a b d
      rw [a, d]
    · rw [← e7, List.take_take]
      congr 1
      omega
/-- a number taken out of a list of one's own -/
theorem delI_any {w0 W : World} {A : Option Addr} {c n p : Nat} {xs : List Int} (h : Acc w0 W 3 (.slice A n c) (xs.map (Value.int .i64))) (hn : xs.length = n) (hp : p < n) :
    Calls Tryz.prog 119 #[.slice A n c, .int .i64 p, .int .i64 ((p : Int) + 1)] W fun e w' => e = .returned (.slice A (n - 1) c) ∧ Acc w0 w' 3 (.slice A (n - 1) c) ((xs.eraseIdx p).map (Value.int .i64)) := by
  subst hn
  obtain ⟨hx, hown⟩ := h
  have hown0 := hown
  obtain ⟨h1, h2⟩ := hown
  rw [List.length_map] at h2
  rcases h2 with ⟨he, h3⟩ | ⟨g, cap, cur, e1, e2, e3, e4, e5, e6, e7⟩
  · omega
  · injection e1 with a b d
    subst a; subst d
    rw [Nat.mul_one] at e7
    have hH := holds_of_blockI e3 e7
    have hC := slices_Delete_int g 0 c p (p + 1) xs W hH e4 (by unfold maxLen at e5; omega) (by omega) hp
    have hcast : ((p + 1 : Nat) : Int) = (p : Int) + 1 := by omega
    rw [hcast] at hC
    have hlen : (xs.take p ++ xs.drop (p + 1) ++ List.replicate (p + 1 - p) 0).length = xs.length := by simp; omega
    refine hC.mono ?_
    rintro e w' ⟨rfl, q, rfl⟩
    have ho := ownsRow_sortedI (n := q) (os := #[]) hlen e2 e3 e4 e5 e6
    rw [grow_none] at ho
    have hg := grownBy_sortedI (w := W) (g := g) (n := q) (os := #[]) (xs.take p ++ xs.drop (p + 1) ++ List.replicate (p + 1 - p) 0).toArray
    rw [grow_none] at hg
    have hk := own_cut ho (xs.length - 1) (by omega) (by omega)
    have he : ((xs.take p ++ xs.drop (p + 1) ++ List.replicate (p + 1 - p) (0 : Int)).map (Value.int .i64)).take (xs.length - 1) = (xs.eraseIdx p).map (Value.int .i64) := by
      rw [← List.map_take, List.take_append_of_le_length (by simp; omega), List.take_of_length_le (by simp; omega), List.eraseIdx_eq_take_drop_succ]
    rw [he] at hk
    refine ⟨by rw [show p + 1 - p = 1 by omega], Below.grown hx hg hx.size (fun k hk => by injection hk with hk; omega), ?_⟩
    have hl2 : ((xs.eraseIdx p).map (Value.int .i64)).length = xs.length - 1 := by rw [List.length_map, List.length_eraseIdx, if_pos hp]
    rw [hl2]
    exact hk
set_option maxRecDepth 100000 in
set_option maxHeartbeats 4000000 in
theorem iWithoutPoint_any (A : Option Addr) (cp : Nat) (D : List (List Int)) (p : Int) (w : World) (h : Mat w A cp D) :
    Calls Tryz.prog 91 #[.slice A D.length cp, .int .i64 p] w (TupR w (woB D p) (woOk D p)) := by
  have hcm := h.2.1
  have hlc := h.1
  unfold maxLen at hcm
  have HM := Lib.hid h
  have HC := Lib.hid (hasPoint_any A cp D p w h)
  have HD := Lib.hid (show woB D p = if woOk D p = true then woV D p.toNat else [] from rfl)
  have HO := Lib.hid (show woOk D p = (pointB D p && decide (2 ≤ D.length)) from rfl)
  cases hb : pointB D p with
  | false =>
    have HK := Lib.hid (show woOk D p = false by rw [HO.out, hb]; rfl)
    have HF := Lib.hid (show woB D p = [] by rw [HD.out, HK.out]; rfl)
    rw [hb] at HC
    clear hb h
    go_enter Tryz.func91, Tryz.ntmps91
    go_wp2_with fail
    refine HC.out.mono ?_
    rintro e w1 ⟨rfl, m1, rfl⟩
    go_wp2
    go_ret2
    rw [HF.out, HK.out]
    exact ⟨_, rfl, AccR.nil (by repeat (first | exact Ext.refl _ | assumption | apply Ext.drewN' | apply Ext.alloc' | refine Ext.trans ?_ (by assumption)))⟩
  | true =>
  by_cases h2 : 2 ≤ D.length
  rotate_left
  · have h2' : (D.length : Int) < 2 := by omega
    have HK := Lib.hid (show woOk D p = false by rw [HO.out, decide_eq_false h2, Bool.and_false])
    have HF := Lib.hid (show woB D p = [] by rw [HD.out, HK.out]; rfl)
    rw [hb] at HC
    clear hb h
    go_enter Tryz.func91, Tryz.ntmps91
    go_wp2_with fail
    refine HC.out.mono ?_
    rintro e w1 ⟨rfl, m1, rfl⟩
    go_wp2
    go_ret2
    rw [HF.out, HK.out]
    exact ⟨_, rfl, AccR.nil (by repeat (first | exact Ext.refl _ | assumption | apply Ext.drewN' | apply Ext.alloc' | refine Ext.trans ?_ (by assumption)))⟩
  · have h2' : ¬ (D.length : Int) < 2 := by omega
    have HK := Lib.hid (show woOk D p = true by rw [HO.out, decide_eq_true h2, hb]; rfl)
    have HF := Lib.hid (show woB D p = woV D p.toNat by rw [HD.out, HK.out]; rfl)
    rw [hb] at HC
    have hp : spB D = true ∧ 0 ≤ p ∧ p < D.length := by
      unfold pointB at hb
      rw [Bool.and_eq_true] at hb
      have := of_decide_eq_true hb.2
      exact ⟨hb.1, this.1, this.2⟩
    obtain ⟨hs, p0, p1⟩ := hp
    obtain ⟨q, rfl⟩ : ∃ q : Nat, p = (q : Int) := ⟨p.toNat, by omega⟩
    rw [show ((q : Int)).toNat = q by omega] at HF
    obtain ⟨⟨hn1, hn6⟩, hsq, -⟩ := farB_parts (spB_far hs)
    obtain ⟨bk, o, rc, rb, ro, hA, hrow, hlen, hcell, hints⟩ := h.square hsq
    obtain rfl := hA (by omega)
    have HROW := Lib.hid hrow
    have HIN := Lib.hid hints
    have HSL := Lib.hid hsq
    have HST := Lib.hid (fun i (hi : i < D.length) => woK_step (p := q) hi)
    have HAL := Lib.hid (woK_all D q)
    have HZ := Lib.hid (woK_zero D q)
    have HBD := Lib.hid (woK_len D q)
    obtain ⟨n, hn⟩ : ∃ n, D.length = n := ⟨_, rfl⟩
    have HSN := Lib.hid (fun i (hi : i < n) => show (row D i).length = n by rw [HSL.out i (by omega), hn])
    rw [hn] at HC HROW HIN HST HAL hlc hn1 hn6 p1 h2'
    rw [hn]
    clear hb h hs hsq hrow hlen hcell hints hn HSL h2 HD HO p0
    have hq : q < n := by omega
    go_enter Tryz.func91, Tryz.ntmps91
    go_wp2_with fail
    refine HC.out.mono ?_
    rintro e w1 ⟨rfl, m1, rfl⟩
    go_wp2
    go_loopg [21, 6] n (fun g s21 s6 wr => ∃ (k : Nat), k + g = n ∧ s21 = .int .i64 k ∧ Hid (AccR w wr s6 (woK D q k)))
    case atStart => exact ⟨0, by omega, rfl, Lib.hid (by rw [HZ.out]; exact AccR.empty (by repeat (first | exact Ext.refl _ | assumption | apply Ext.drewN' | apply Ext.alloc' | refine Ext.trans ?_ (by assumption))))⟩
    case round =>
      obtain ⟨k, hk, rfl, HR⟩ := hrel
      have hxr := HR.out.x
      by_cases hin : k < n
      · obtain ⟨g', rfl⟩ : ∃ g', gk = g' + 1 := ⟨gk - 1, by omega⟩
        have hin' : (k : Int) < (n : Nat) := by omega
        have c1 := hxr.cell (HROW.out k hin)
        have HSTk := Lib.hid (HST.out k hin)
        have hbd := HBD.out k
        have HIk := Lib.hid (HIN.out k hin)
        have HLK := Lib.hid (HSN.out k hin)
        obtain ⟨acc, hacc⟩ : ∃ r, woK D q k = r := ⟨_, rfl⟩
        obtain ⟨r, hr⟩ : ∃ r, row D k = r := ⟨_, rfl⟩
        rw [hr] at HSTk HIk HLK
        rw [hacc] at HSTk hbd HR
        clear hacc hr
        by_cases hkq : k = q
        · have hkq' : ((k : Int) != (q : Int)) = false := by simp; omega
          have HN := Lib.hid (show woK D q (k + 1) = acc by rw [HSTk.out, if_pos hkq])
          clear hkq
          go_wp2
          go_roundg g'
          case measure => omega
          case rel => exact ⟨k + 1, by omega, by go_num, Lib.hid (by rw [HN.out]; exact HR.out)⟩
        · have hkq' : ((k : Int) != (q : Int)) = true := by simp; omega
          have HN := Lib.hid (show woK D q (k + 1) = acc ++ [r.eraseIdx q] by rw [HSTk.out, if_neg hkq])
          clear hkq
          go_wp2_with (first
            | (at_builtin; (fail_if_success (have hq := hA26)); refine wpList_ex rfl _ _ rfl (.slice (some ⟨_, 0, none⟩) 0 0) _ rfl rfl (appIn_run (w0 := wr) (ys := []) rfl Tryz.underlying47 infoI HLK.out (accNew (Ext.alloc _ _) (heap_alloc_new _ _) (Nat.le_refl _)) (HIk.out.ext (hxr.alloc' _)) (by simp [HLK.out]; omega)) ?_; rintro v26 W26 ⟨hA26, hB26, hS26⟩; rw [List.nil_append] at hA26; obtain ⟨Ar, cr, hv26, -⟩ := (Leaf.of_own hA26.2).1.ints; rw [HLK.out] at hv26; subst hv26)
            | (go_at_call 119; refine (delI_any hA26 HLK.out hq).mono ?_; rintro e w9 ⟨rfl, hA9⟩)
            | (at_builtin; refine wpList_ex rfl _ _ rfl _ (.slice (some ⟨_, 0, none⟩) 1 1) rfl rfl (accR_run (u := .slice Ar (n - 1) cr) rfl Tryz.underlying23 infoR ⟨_, 0, none⟩ 1 rfl HR.out hA9 (Ext.alloc _ _) (cell_new0 _ _ _) (by omega)) ?_; rintro v34 W34 hR34))
          go_roundg g'
          case measure => omega
          case rel => exact ⟨k + 1, by omega, by go_num, Lib.hid (by rw [HN.out]; exact hR34)⟩
      · have hin' : ¬ (k : Int) < (n : Nat) := by omega
        obtain rfl : gk = 0 := by omega
        obtain rfl : k = n := by omega
        rw [HAL.out] at HR
        have HRR := Lib.hid HR.out
        clear HR
        go_wp2
        go_ret2
        rw [HF.out, HK.out]
        exact ⟨_, rfl, HRR.out⟩
end Go.Proofs.YtnalcgcdohlfiaaGreatDoor
namespace Go.Proofs.YtnalcgcdohlfiaaGreatDoor
open Go.RowKit
set_option maxRecDepth 100000 in
set_option maxHeartbeats 4000000 in
theorem sWithoutPoint_any (A : Option Addr) (cp : Nat) (D : List (List Int)) (p : Int) (w : World) (h : Mat w A cp D) :
    Calls Tryz.prog 85 #[.slice A D.length cp, .int .i64 p] w (TupR w (woB D p) (woOk D p)) := by
  have hcm := h.2.1
  have hlc := h.1
  unfold maxLen at hcm
  have HM := Lib.hid h
  have HC := Lib.hid (fun W (q : Mat W A cp D) => SpaceOk_any A cp D W q)
  have HD := Lib.hid (show woB D p = if woOk D p = true then woV D p.toNat else [] from rfl)
  have HO := Lib.hid (show woOk D p = ((spB D && decide (0 ≤ p ∧ p < D.length)) && decide (2 ≤ D.length)) from rfl)
  cases hs : spB D with
  | false =>
    have HK := Lib.hid (show woOk D p = false by rw [HO.out, hs]; rfl)
    have HF := Lib.hid (show woB D p = [] by rw [HD.out, HK.out]; rfl)
    rw [hs] at HC
    clear hs h
    go_enter Tryz.func85, Tryz.ntmps85
    go_wp2_with fail
    refine (HC.out _ (HM.out.ext (by repeat (first | exact Ext.refl _ | assumption | apply Ext.drewN' | apply Ext.alloc' | refine Ext.trans ?_ (by assumption))))).mono ?_
    rintro e w1 ⟨rfl, m1, rfl⟩
    go_wp2
    go_ret2
    rw [HF.out, HK.out]
    exact ⟨_, rfl, (AccR.empty (Ext.refl _)).on (by repeat (first | exact Ext.refl _ | assumption | apply Ext.drewN' | apply Ext.alloc' | refine Ext.trans ?_ (by assumption)))⟩
  | true =>
  by_cases h2 : 2 ≤ D.length
  rotate_left
  · have h2' : (D.length : Int) < 2 := by omega
    have HK := Lib.hid (show woOk D p = false by rw [HO.out, decide_eq_false h2, Bool.and_false])
    have HF := Lib.hid (show woB D p = [] by rw [HD.out, HK.out]; rfl)
    rw [hs] at HC
    clear hs h
    go_enter Tryz.func85, Tryz.ntmps85
    go_wp2_with fail
    refine (HC.out _ (HM.out.ext (by repeat (first | exact Ext.refl _ | assumption | apply Ext.drewN' | apply Ext.alloc' | refine Ext.trans ?_ (by assumption))))).mono ?_
    rintro e w1 ⟨rfl, m1, rfl⟩
    go_wp2
    go_ret2
    rw [HF.out, HK.out]
    exact ⟨_, rfl, (AccR.empty (Ext.refl _)).on (by repeat (first | exact Ext.refl _ | assumption | apply Ext.drewN' | apply Ext.alloc' | refine Ext.trans ?_ (by assumption)))⟩
  have h2' : ¬ (D.length : Int) < 2 := by omega
  have HL1 := Lib.hid (fun W => l1In_any p 0 ((D.length : Int) - 1) W)
  by_cases hp : 0 ≤ p ∧ p < D.length
  rotate_left
  · have HK := Lib.hid (show woOk D p = false by rw [HO.out, decide_eq_false hp, Bool.and_false, Bool.false_and])
    have HF := Lib.hid (show woB D p = [] by rw [HD.out, HK.out]; rfl)
    rw [hs] at HC
    rw [show inB p 0 ((D.length : Int) - 1) = false from decide_eq_false (by omega)] at HL1
    clear hs h hp
    go_enter Tryz.func85, Tryz.ntmps85
    go_wp2_with fail
    refine (HC.out _ (HM.out.ext (by repeat (first | exact Ext.refl _ | assumption | apply Ext.drewN' | apply Ext.alloc' | refine Ext.trans ?_ (by assumption))))).mono ?_
    rintro e w1 ⟨rfl, m1, rfl⟩
    go_wp2_with fail
    refine (HL1.out _).mono ?_
    rintro e w2 ⟨rfl, rfl⟩
    go_wp2
    go_ret2
    rw [HF.out, HK.out]
    exact ⟨_, rfl, (AccR.empty (Ext.refl _)).on (by repeat (first | exact Ext.refl _ | assumption | apply Ext.drewN' | apply Ext.alloc' | refine Ext.trans ?_ (by assumption)))⟩
  · have HK := Lib.hid (show woOk D p = true by rw [HO.out, decide_eq_true h2, decide_eq_true hp, hs]; rfl)
    have HF := Lib.hid (show woB D p = woV D p.toNat by rw [HD.out, HK.out]; rfl)
    rw [show inB p 0 ((D.length : Int) - 1) = true from decide_eq_true (by omega)] at HL1
    obtain ⟨p0, p1⟩ := hp
    rw [hs] at HC
    obtain ⟨q, rfl⟩ : ∃ q : Nat, p = (q : Int) := ⟨p.toNat, by omega⟩
    rw [show ((q : Int)).toNat = q by omega] at HF
    obtain ⟨⟨hn1, hn6⟩, hsq, -⟩ := farB_parts (spB_far hs)
    obtain ⟨bk, o, rc, rb, ro, hA, hrow, hlen, hcell, hints⟩ := h.square hsq
    obtain rfl := hA (by omega)
    have HROW := Lib.hid hrow
    have HCE := Lib.hid hcell
    have HST := Lib.hid (fun i (hi : i < D.length) => woK_step (p := q) hi)
    have HAL := Lib.hid (woK_all D q)
    have HZ := Lib.hid (woK_zero D q)
    have HBD := Lib.hid (woK_len D q)
    have HTX := Lib.hid (fun i j (hi : i < D.length) (hj : j < D.length) => erase_ix (xs := row D i) (p := q) (j := j) (by rw [hsq i hi]; exact hj))
    have HTF := Lib.hid (fun i (hi : i < D.length) => show (row D i).take D.length = row D i from List.take_of_length_le (by rw [hsq i hi]; exact Nat.le_refl _))
    have HXB := Lib.hid (fun (r : List Int) j (hj : j ≤ D.length) => show ((r.take j).eraseIdx q).length ≤ 6 from Nat.le_trans (List.length_eraseIdx_le _ _) (by rw [List.length_take]; omega))
    obtain ⟨n, hn⟩ : ∃ n, D.length = n := ⟨_, rfl⟩
    rw [hn] at HC HL1 HROW HCE HST HAL hlc hn1 hn6 p1 h2' HTX HTF HXB
    rw [hn]
    clear hs h hsq hrow hlen hcell hints hn h2 HD HO p0
    have hq : q < n := by omega
    go_enter Tryz.func85, Tryz.ntmps85
    go_wp2_with fail
    refine (HC.out _ (HM.out.ext (by repeat (first | exact Ext.refl _ | assumption | apply Ext.drewN' | apply Ext.alloc' | refine Ext.trans ?_ (by assumption))))).mono ?_
    rintro e w1 ⟨rfl, m1, rfl⟩
    go_wp2_with fail
    refine (HL1.out _).mono ?_
    rintro e w2 ⟨rfl, rfl⟩
    go_wp2
    go_loopg [7, 6] n (fun g s7 s6 wr => ∃ (k : Nat), k + g = n ∧ s7 = .int .i64 k ∧ Hid (AccR w wr s6 (woK D q k)))
    case atStart => exact ⟨0, by omega, rfl, Lib.hid (by rw [HZ.out]; exact (AccR.empty (Ext.refl _)).on (by repeat (first | exact Ext.refl _ | assumption | apply Ext.drewN' | apply Ext.alloc' | refine Ext.trans ?_ (by assumption))))⟩
    case round =>
      obtain ⟨k, hk, rfl, HR⟩ := hrel
      have hxr := HR.out.x
      by_cases hin : k < n
      · obtain ⟨g', rfl⟩ : ∃ g', gk = g' + 1 := ⟨gk - 1, by omega⟩
        have hin' : (k : Int) < (n : Nat) := by omega
        have HSTk := Lib.hid (HST.out k hin)
        have hbd := HBD.out k
        obtain ⟨acc, hacc⟩ : ∃ r, woK D q k = r := ⟨_, rfl⟩
        rw [hacc] at HSTk hbd HR
        clear hacc
        by_cases hkq : k = q
        · have hkq' : ((k : Int) == (q : Int)) = true := by simp; omega
          have HN := Lib.hid (show woK D q (k + 1) = acc by rw [HSTk.out, if_pos hkq])
          clear hkq
          go_wp2
          go_roundg g'
          case measure => omega
          case rel => exact ⟨k + 1, by omega, by go_num, Lib.hid (by rw [HN.out]; exact HR.out)⟩
        · have hkq' : ((k : Int) == (q : Int)) = false := by simp; omega
          have HN := Lib.hid (show woK D q (k + 1) = acc ++ [(row D k).eraseIdx q] by rw [HSTk.out, if_neg hkq])
          have HROWk := Lib.hid (HROW.out k hin)
          have HCEk := Lib.hid (fun j hj => HCE.out k hin j hj)
          have HTXk := Lib.hid (fun j hj => HTX.out k j hin hj)
          have HTFk := Lib.hid (HTF.out k hin)
          have HXBk := Lib.hid (HXB.out (row D k))
          have HAT := Lib.hid (fun j => show at2 D k j = ix (row D k) j from rfl)
          obtain ⟨r, hr⟩ : ∃ r, row D k = r := ⟨_, rfl⟩
          rw [hr] at HN HTXk HTFk HXBk HAT
          obtain ⟨wq, hwq⟩ : ∃ wq : World, wq = wr := ⟨_, rfl⟩
          subst hwq
          have HXI := Lib.hid hxr
          clear hkq hr
          go_wp2
          go_loopg [9, 8] n (fun g s9 s8 wx => ∃ (j : Nat), j + g = n ∧ s9 = .int .i64 j ∧ Hid (Acc wq wx 3 s8 (((r.take j).eraseIdx q).map (Value.int .i64))))
          case atStart => exact ⟨0, by omega, rfl, Lib.hid (by rw [List.take_zero, List.eraseIdx_nil]; exact Acc.empty _ (Ext.refl _))⟩
          case round =>
            obtain ⟨j, hj, rfl, HK2⟩ := hrel
            have hxk := HK2.out.x
            by_cases hinj : j < n
            · obtain ⟨gj1, rfl⟩ : ∃ g', gk = g' + 1 := ⟨gk - 1, by omega⟩
              have hinj' : (j : Int) < (n : Nat) := by omega
              have c1 := (HXI.out.trans hxk).cell HROWk.out
              have c2 := (HXI.out.trans hxk).cell (HCEk.out j hinj)
              rw [HAT.out] at c2
              have HTj := Lib.hid (HTXk.out j hinj)
              have hb6 := HXBk.out j (by omega)
              obtain ⟨X, hX⟩ : ∃ X, ix r j = X := ⟨_, rfl⟩
              rw [hX] at c2 HTj
              obtain ⟨ys, hys⟩ : ∃ ys, (r.take j).eraseIdx q = ys := ⟨_, rfl⟩
              rw [hys] at HK2 HTj hb6
              clear hX hys
              by_cases hjq : j = q
              · have hjq' : ((j : Int) != (q : Int)) = false := by simp; omega
                have HN2 := Lib.hid (show (r.take (j + 1)).eraseIdx q = ys by rw [HTj.out, if_pos hjq])
                clear hjq
                go_wp2
                go_roundg gj1
                case measure => omega
                case rel => exact ⟨j + 1, by omega, by go_num, Lib.hid (by rw [HN2.out]; exact HK2.out)⟩
              · have hjq' : ((j : Int) != (q : Int)) = true := by simp; omega
                have HN2 := Lib.hid (show (r.take (j + 1)).eraseIdx q = ys ++ [X] by rw [HTj.out, if_neg hjq])
                clear hjq
                go_wp2_with (at_builtin; refine wpList_ex rfl _ _ rfl _ (.slice (some ⟨_, 0, none⟩) 1 1) rfl rfl (app_run (w0 := wq) Tryz.underlying47 infoI rfl (by decide) _ (ys.map (Value.int .i64)) ⟨_, 0, none⟩ 1 1 [.int .i64 X] rfl (one_news (cell_new0 _ _ _) rfl) (map_one [X]) (HK2.out.on (Ext.alloc _ _)) (by simp; omega)) ?_; rintro v2 W2 ⟨hA2, hB2, hS2⟩)
                go_roundg gj1
                case measure => omega
                case rel => exact ⟨j + 1, by omega, by go_num, Lib.hid (by rw [HN2.out, List.map_append]; exact hA2)⟩
            · have hinj' : ¬ (j : Int) < (n : Nat) := by omega
              obtain rfl : gk = 0 := by omega
              obtain rfl : j = n := by omega
              rw [HTFk.out] at HK2
              obtain ⟨Ar, cr, hv2, -⟩ := (Leaf.of_own HK2.out.2).1.ints
              obtain ⟨K, hK⟩ : ∃ K, (r.eraseIdx q).length = K := ⟨_, rfl⟩
              rw [hK] at hv2
              subst hv2
              clear hK
              go_wp2_with (at_builtin; refine wpList_ex rfl _ _ rfl _ (.slice (some ⟨_, 0, none⟩) 1 1) rfl rfl (accR_run (u := .slice Ar K cr) rfl Tryz.underlying23 infoR ⟨_, 0, none⟩ 1 rfl HR.out HK2.out (Ext.alloc _ _) (cell_new0 _ _ _) (by omega)) ?_; rintro v3 W3 hR3)
              go_roundg g'
              case measure => omega
              case rel => exact ⟨k + 1, by omega, by go_num, Lib.hid (by rw [HN.out]; exact hR3)⟩
      · have hin' : ¬ (k : Int) < (n : Nat) := by omega
        obtain rfl : gk = 0 := by omega
        obtain rfl : k = n := by omega
        rw [HAL.out] at HR
        have HRR := Lib.hid HR.out
        clear HR
        go_wp2
        go_ret2
        rw [HF.out, HK.out]
        exact ⟨_, rfl, HRR.out⟩
end Go.Proofs.YtnalcgcdohlfiaaGreatDoor
namespace Go.Proofs.YtnalcgcdohlfiaaGreatDoor
open Go.RowKit
/-- one step: the way over m -/
def blw (m i j : Nat) (D : List (List Int)) : List (List Int) := set2 D i j (min (at2 D i j) (max (at2 D i m) (at2 D m j)))
def blJ (m i : Nat) : Nat → Nat → List (List Int) → List (List Int) := itR (fun j D => blw m i j D)
def blI (n m : Nat) : Nat → Nat → List (List Int) → List (List Int) := itR (fun i D => blJ m i n 0 D)
def blM (n : Nat) : Nat → Nat → List (List Int) → List (List Int) := itR (fun m D => blI n m n 0 D)
/-- the greatest ultrametric distances below others -/
def blwV (D : List (List Int)) : List (List Int) := blM D.length D.length 0 D
/-- rows of one's own, square, of small numbers -/
def BlS (w : World) (b c n : Nat) (V : Nat → Value) (E : List (List Int)) (wr : World) : Prop :=
  ObjM w.heap.size wr (some ⟨b, 0, none⟩) c E V ∧ Sq E ∧ E.length = n ∧ BdN 0 60 n E ∧ Ext w wr
theorem BlS.step {w wr : World} {b c n : Nat} {V : Nat → Value} {E : List (List Int)} (h : BlS w b c n V E wr) {m i j : Nat} (hm : m < n) (hi : i < n) (hj : j < n) :
    ∃ (q cr : Nat → Nat), (wr.cell? ⟨b, i, none⟩ = some (.slice (some ⟨q i, 0, none⟩) n (cr i)) ∧ wr.cell? ⟨b, m, none⟩ = some (.slice (some ⟨q m, 0, none⟩) n (cr m)) ∧ n ≤ cr i ∧ cr i ≤ maxLen ∧ n ≤ cr m ∧ cr m ≤ maxLen) ∧
      (wr.cell? ⟨q i, j, none⟩ = some (.int .i64 (at2 E i j)) ∧ wr.cell? ⟨q i, m, none⟩ = some (.int .i64 (at2 E i m)) ∧ wr.cell? ⟨q m, j, none⟩ = some (.int .i64 (at2 E m j)) ∧ wr.frozen? ⟨q i, j, none⟩ = false) ∧
      ((0 ≤ at2 E i j ∧ at2 E i j ≤ 60) ∧ (0 ≤ at2 E i m ∧ at2 E i m ≤ 60) ∧ (0 ≤ at2 E m j ∧ at2 E m j ≤ 60)) ∧
      ∀ k : Nat, ∀ x : Int, x = min (at2 E i j) (max (at2 E i m) (at2 E m j)) → BlS w b c n V (blw m i j E) ((wr.drewN k).setCell ⟨q i, j, none⟩ (.int .i64 x)) := by
  obtain ⟨hO, hs, hl, hb, hx⟩ := h
  obtain ⟨q, cr, hq⟩ := hO.sq hs
  rw [hl] at hq
  obtain ⟨a1, a2, a3, a4, a5⟩ := hq i hi
  obtain ⟨b1, b2, b3, b4, b5⟩ := hq m hm
  obtain ⟨c1, f1, S1⟩ := a5 j hj
  obtain ⟨c2, f2, -⟩ := a5 m hm
  obtain ⟨c3, f3, -⟩ := b5 j hj
  refine ⟨q, cr, ⟨a1, b1, a2, a3, b2, b3⟩, ⟨c1, c2, c3, f1⟩, ⟨hb i hi j hj, hb i hi m hm, hb m hm j hj⟩, fun k x hx' => ?_⟩
  subst hx'
  obtain ⟨t1, t1'⟩ := hb i hi j hj
  obtain ⟨t2, t2'⟩ := hb i hi m hm
  obtain ⟨t3, t3'⟩ := hb m hm j hj
  exact ⟨S1 _, hs.set2 (by omega) _, by unfold blw; rw [set2_len]; exact hl, hb.set2 hs hl hi hj (by omega) (by omega), (hx.drewN' k).setCell' (show w.heap.size ≤ q i from a4) _⟩
theorem blS_of {w w1 : World} {v : Value} {D : List (List Int)} (h : AccR w w1 v D) (hf : farB D = true) : ∃ b c V, v = .slice (some ⟨b, 0, none⟩) D.length c ∧ D.length ≤ c ∧ c ≤ maxLen ∧ BlS w b c D.length V D w1 := by
  obtain ⟨V, hA⟩ := h
  obtain ⟨⟨n1, n6⟩, hsq, hc⟩ := farB_parts hf
  obtain ⟨A, c, hv, hO⟩ := hA.obj
  obtain ⟨b, rfl⟩ := hO.head (by omega)
  exact ⟨b, c, V, hv, hO.1, hO.2.1, hO, hsq, rfl, fun i hi j hj => ⟨(hc i hi j hj).1, (hc i hi j hj).2.1⟩, hA.x⟩
/-- such rows, handed back -/
def BlR (w : World) (n : Nat) (E : List (List Int)) (e : Ending) (w' : World) : Prop := ∃ b c V, e = .returned (.slice (some ⟨b, 0, none⟩) n c) ∧ BlS w b c n V E w'
set_option maxRecDepth 100000 in
set_option maxHeartbeats 4000000 in
theorem sBelowOf_any (A : Option Addr) (cp : Nat) (D : List (List Int)) (w : World) (h : Mat w A cp D) (hf : farB D = true) :
    Calls Tryz.prog 80 #[.slice A D.length cp] w (BlR w D.length (blwV D)) := by
  have hcm := h.2.1
  have hlc := h.1
  unfold maxLen at hcm
  have HM := Lib.hid h
  have HC := Lib.hid (FarOk_any A cp D w h)
  obtain ⟨⟨n1, n6⟩, hsq, -⟩ := farB_parts hf
  have HCP := Lib.hid (fun W (q : Mat W A cp D) => l2Copy_any A cp D W q (by omega) (fun i hi => by rw [hsq i hi]; omega))
  have HB := Lib.hid (fun w1 v (q : AccR w w1 v D) => blS_of q hf)
  have H0 := Lib.hid (show blwV D = blM D.length D.length 0 D from rfl)
  rw [hf] at HC
  obtain ⟨n, hn⟩ : ∃ n, D.length = n := ⟨_, rfl⟩
  rw [hn] at HC HCP HB H0 hlc n1 n6
  rw [hn]
  clear h hf hsq hn
  obtain ⟨R, hR⟩ : ∃ R, blwV D = R := ⟨_, rfl⟩
  rw [hR] at H0
  rw [hR]
  clear hR
  go_enter Tryz.func80, Tryz.ntmps80
  go_wp2_with fail
  refine HC.out.mono ?_
  rintro e w1 ⟨rfl, m1, rfl⟩
  go_wp2_with fail
  refine (HCP.out _ (HM.out.ext (by repeat (first | exact Ext.refl _ | assumption | apply Ext.drewN' | apply Ext.alloc' | refine Ext.trans ?_ (by assumption))))).mono ?_
  rintro e w2 ⟨v2, rfl, hA2⟩
  obtain ⟨b, c, V, rfl, hc1, hc2, hS⟩ := HB.out w2 v2 (hA2.low (by repeat (first | exact Ext.refl _ | assumption | apply Ext.drewN' | apply Ext.alloc' | refine Ext.trans ?_ (by assumption))))
  have HS := Lib.hid hS
  unfold maxLen at hc2
  clear hA2 hS HB HC HCP
  go_wp2
  go_loopg [4] n (fun k s4 wr => ∃ (m : Nat) (E : List (List Int)), m + k = n ∧ s4 = .int .i64 m ∧ Hid (BlS w b c n V E wr ∧ blM n k m E = R))
  case atStart => exact ⟨0, D, by omega, rfl, Lib.hid ⟨HS.out, H0.out.symm⟩⟩
  case round =>
    obtain ⟨m, E1, hm, rfl, HS1⟩ := hrel
    clear HS
    by_cases hmn : m < n
    · obtain ⟨g1, rfl⟩ : ∃ g', gk = g' + 1 := ⟨gk - 1, by omega⟩
      have hmn' : (m : Int) < (n : Nat) := by omega
      have HE1 := Lib.hid (show blM n g1 (m + 1) (blI n m n 0 E1) = R from HS1.out.2)
      go_wp2
      go_loopg [5] n (fun k s5 wr => ∃ (i : Nat) (E : List (List Int)), i + k = n ∧ s5 = .int .i64 i ∧ Hid (BlS w b c n V E wr ∧ blI n m k i E = blI n m n 0 E1))
      case atStart => exact ⟨0, E1, by omega, rfl, Lib.hid ⟨HS1.out.1, rfl⟩⟩
      case round =>
        obtain ⟨i, E2, hi, rfl, HS2⟩ := hrel
        clear HS1
        by_cases hin : i < n
        · obtain ⟨g2, rfl⟩ : ∃ g', gk = g' + 1 := ⟨gk - 1, by omega⟩
          have hin' : (i : Int) < (n : Nat) := by omega
          have HE2 := Lib.hid (show blI n m g2 (i + 1) (blJ m i n 0 E2) = blI n m n 0 E1 from HS2.out.2)
          go_wp2
          go_loopg [6] n (fun k s6 wr => ∃ (j : Nat) (E : List (List Int)), j + k = n ∧ s6 = .int .i64 j ∧ Hid (BlS w b c n V E wr ∧ blJ m i k j E = blJ m i n 0 E2))
          case atStart => exact ⟨0, E2, by omega, rfl, Lib.hid ⟨HS2.out.1, rfl⟩⟩
          case round =>
            obtain ⟨j, E3, hj, rfl, HS3⟩ := hrel
            clear HS2
            by_cases hjn : j < n
            · obtain ⟨g3, rfl⟩ : ∃ g', gk = g' + 1 := ⟨gk - 1, by omega⟩
              have hjn' : (j : Int) < (n : Nat) := by omega
              have HE3 := Lib.hid (show blJ m i g3 (j + 1) (blw m i j E3) = blJ m i n 0 E2 from HS3.out.2)
              obtain ⟨q, cr, ⟨a1, b1, a2, a3, b2, b3⟩, hcs, ⟨⟨t1, t1'⟩, ⟨t2, t2'⟩, t3, t3'⟩, hstep⟩ := HS3.out.1.step hmn hin hjn
              have HK := Lib.hid (hstep 1)
              obtain ⟨X, hX⟩ : ∃ X, at2 E3 i j = X := ⟨_, rfl⟩
              obtain ⟨Y, hY⟩ : ∃ X, at2 E3 i m = X := ⟨_, rfl⟩
              obtain ⟨Z, hZ⟩ : ∃ X, at2 E3 m j = X := ⟨_, rfl⟩
              rw [hX, hY, hZ] at hcs HK
              rw [hX] at t1 t1'
              rw [hY] at t2 t2'
              rw [hZ] at t3 t3'
              obtain ⟨c1, c2, c3, f1⟩ := hcs
              have HC := Lib.hid (And.intro c1 (And.intro c2 (And.intro c3 (And.intro a1 (And.intro b1 f1)))))
              unfold maxLen at a3 b3
              clear hstep HS3 c1 c2 c3 a1 b1 f1 hX hY hZ
              go_wp2_with fail
              obtain ⟨c1, c2, c3, a1, b1, f1⟩ := HC.out
              go_still_tail 29, (by kernel_rfl)
              all_goals
                change wpList _ _ _ _ _ wr.drew
                go_wp2
                all_goals
                  go_roundg g3
                  case measure => omega
                  case rel =>
                    refine ⟨j + 1, _, by omega, by go_num, Lib.hid ⟨HK.out _ ?_, HE3.out⟩⟩
                    omega
            · have hjn' : ¬ (j : Int) < (n : Nat) := by omega
              obtain rfl : gk = 0 := by omega
              have HE := Lib.hid (show E3 = blJ m i n 0 E2 from HS3.out.2)
              go_wp2
              go_roundg g2
              case measure => omega
              case rel => exact ⟨i + 1, E3, by omega, by go_num, Lib.hid ⟨HS3.out.1, by rw [HE.out]; exact HE2.out⟩⟩
        · have hin' : ¬ (i : Int) < (n : Nat) := by omega
          obtain rfl : gk = 0 := by omega
          have HE := Lib.hid (show E2 = blI n m n 0 E1 from HS2.out.2)
          go_wp2
          go_roundg g1
          case measure => omega
          case rel => exact ⟨m + 1, E2, by omega, by go_num, Lib.hid ⟨HS2.out.1, by rw [HE.out]; exact HE1.out⟩⟩
    · have hmn' : ¬ (m : Int) < (n : Nat) := by omega
      obtain rfl : gk = 0 := by omega
      have HE := Lib.hid (show E1 = R from HS1.out.2)
      go_wp2
      go_ret
      exact ⟨b, c, V, rfl, by rw [← HE.out]; exact HS1.out.1⟩
theorem blwF_any (x y : Int) (w : World) : Calls Tryz.prog 123 #[.int .i64 x, .int .i64 y] w fun e w' => e = .returned (.int .i64 (max x y)) ∧ w' = w := by
  by_cases h : x < y
  · have HF := Lib.hid (show max x y = y by omega)
    go_enter Tryz.func123, Tryz.ntmps123
    go_wp2
    go_ret
    exact ⟨ret_int (by first | rfl | exact HF.out.symm), rfl⟩
  · have HF := Lib.hid (show max x y = x by omega)
    go_enter Tryz.func123, Tryz.ntmps123
    go_wp2
    go_ret
    exact ⟨ret_int (by first | rfl | exact HF.out.symm), rfl⟩
set_option maxRecDepth 100000 in
set_option maxHeartbeats 4000000 in
theorem bestWays_any (A : Option Addr) (cp : Nat) (D : List (List Int)) (w : World) (h : Mat w A cp D) (hf : farB D = true) :
    Calls Tryz.prog 122 #[.slice A D.length cp, .func (.func 123) #[] #[]] w (BlR w D.length (blwV D)) := by
  have hcm := h.2.1
  have hlc := h.1
  unfold maxLen at hcm
  have HM := Lib.hid h
  obtain ⟨⟨n1, n6⟩, hsq, -⟩ := farB_parts hf
  have HCP := Lib.hid (fun W (q : Mat W A cp D) => copyRows_any A cp D W q (by omega) (fun i hi => by rw [hsq i hi]; omega))
  have HB := Lib.hid (fun w1 v (q : AccR w w1 v D) => blS_of q hf)
  have H0 := Lib.hid (show blwV D = blM D.length D.length 0 D from rfl)
  obtain ⟨n, hn⟩ : ∃ n, D.length = n := ⟨_, rfl⟩
  rw [hn] at HCP HB H0 hlc n1 n6
  rw [hn]
  clear h hf hsq hn
  obtain ⟨R, hR⟩ : ∃ R, blwV D = R := ⟨_, rfl⟩
  rw [hR] at H0
  rw [hR]
  clear hR
  go_enter Tryz.func122, Tryz.ntmps122
  go_wp2_with fail
  refine (HCP.out _ (HM.out.ext (by repeat (first | exact Ext.refl _ | assumption | apply Ext.drewN' | apply Ext.alloc' | refine Ext.trans ?_ (by assumption))))).mono ?_
  rintro e w2 ⟨v2, rfl, hA2⟩
  obtain ⟨b, c, V, rfl, hc1, hc2, hS⟩ := HB.out w2 v2 (hA2.low (by repeat (first | exact Ext.refl _ | assumption | apply Ext.drewN' | apply Ext.alloc' | refine Ext.trans ?_ (by assumption))))
  have HS := Lib.hid hS
  unfold maxLen at hc2
  clear hA2 hS HB HCP
  go_wp2
  go_loopg [13] n (fun k s13 wr => ∃ (m : Nat) (E : List (List Int)), m + k = n ∧ s13 = .int .i64 m ∧ Hid (BlS w b c n V E wr ∧ blM n k m E = R))
  case atStart => exact ⟨0, D, by omega, rfl, Lib.hid ⟨HS.out, H0.out.symm⟩⟩
  case round =>
    obtain ⟨m, E1, hm, rfl, HS1⟩ := hrel
    clear HS
    by_cases hmn : m < n
    · obtain ⟨g1, rfl⟩ : ∃ g', gk = g' + 1 := ⟨gk - 1, by omega⟩
      have hmn' : (m : Int) < (n : Nat) := by omega
      have HE1 := Lib.hid (show blM n g1 (m + 1) (blI n m n 0 E1) = R from HS1.out.2)
      go_wp2
      go_loopg [18] n (fun k s18 wr => ∃ (i : Nat) (E : List (List Int)), i + k = n ∧ s18 = .int .i64 i ∧ Hid (BlS w b c n V E wr ∧ blI n m k i E = blI n m n 0 E1))
      case atStart => exact ⟨0, E1, by omega, rfl, Lib.hid ⟨HS1.out.1, rfl⟩⟩
      case round =>
        obtain ⟨i, E2, hi, rfl, HS2⟩ := hrel
        clear HS1
        by_cases hin : i < n
        · obtain ⟨g2, rfl⟩ : ∃ g', gk = g' + 1 := ⟨gk - 1, by omega⟩
          have hin' : (i : Int) < (n : Nat) := by omega
          have HE2 := Lib.hid (show blI n m g2 (i + 1) (blJ m i n 0 E2) = blI n m n 0 E1 from HS2.out.2)
          go_wp2
          go_loopg [23] n (fun k s23 wr => ∃ (j : Nat) (E : List (List Int)), j + k = n ∧ s23 = .int .i64 j ∧ Hid (BlS w b c n V E wr ∧ blJ m i k j E = blJ m i n 0 E2))
          case atStart => exact ⟨0, E2, by omega, rfl, Lib.hid ⟨HS2.out.1, rfl⟩⟩
          case round =>
            obtain ⟨j, E3, hj, rfl, HS3⟩ := hrel
            clear HS2
            by_cases hjn : j < n
            · obtain ⟨g3, rfl⟩ : ∃ g', gk = g' + 1 := ⟨gk - 1, by omega⟩
              have hjn' : (j : Int) < (n : Nat) := by omega
              have HE3 := Lib.hid (show blJ m i g3 (j + 1) (blw m i j E3) = blJ m i n 0 E2 from HS3.out.2)
              obtain ⟨q, cr, ⟨a1, b1, a2, a3, b2, b3⟩, hcs, ⟨⟨t1, t1'⟩, ⟨t2, t2'⟩, t3, t3'⟩, hstep⟩ := HS3.out.1.step hmn hin hjn
              have HK := Lib.hid (hstep 1)
              obtain ⟨X, hX⟩ : ∃ X, at2 E3 i j = X := ⟨_, rfl⟩
              obtain ⟨Y, hY⟩ : ∃ X, at2 E3 i m = X := ⟨_, rfl⟩
              obtain ⟨Z, hZ⟩ : ∃ X, at2 E3 m j = X := ⟨_, rfl⟩
              rw [hX, hY, hZ] at hcs HK
              rw [hX] at t1 t1'
              rw [hY] at t2 t2'
              rw [hZ] at t3 t3'
              obtain ⟨c1, c2, c3, f1⟩ := hcs
              have HF1 := Lib.hid (fun k => show (wr.drewN k).cell? ⟨b, i, none⟩ = some (.slice (some ⟨q i, 0, none⟩) n (cr i)) ∧ (wr.drewN k).cell? ⟨b, m, none⟩ = some (.slice (some ⟨q m, 0, none⟩) n (cr m)) ∧ (wr.drewN k).cell? ⟨q i, j, none⟩ = some (.int .i64 X) ∧ (wr.drewN k).cell? ⟨q i, m, none⟩ = some (.int .i64 Y) ∧ (wr.drewN k).cell? ⟨q m, j, none⟩ = some (.int .i64 Z) from ⟨a1, b1, c1, c2, c3⟩)
              unfold maxLen at a3 b3
              have HM3 := Lib.hid (show ∃ M, max Y Z = M ∧ 0 ≤ M ∧ M ≤ 60 from ⟨_, rfl, by omega, by omega⟩)
              obtain ⟨M, hM, M0, M1⟩ := HM3.out
              rw [hM] at HK
              have HBF := Lib.hid (fun W => blwF_any Y Z W)
              rw [hM] at HBF
              clear hstep HS3 c1 c2 c3 a1 b1 hX hY hZ hM HM3
              go_wp2_with fail
              obtain ⟨a1, b1, c1, c2, c3⟩ := HF1.out 1
              change wr.drew.cell? _ = _ at a1 b1 c1 c2 c3
              refine wp_region_still_tail 30 (by kernel_rfl) (by kernel_rfl) ?_
              simp only [List.take_succ_cons, List.take_zero, List.drop_succ_cons, List.drop_zero]
              repeat still_step
              still_call (HBF.out _)
              repeat still_step
              refine wpStill_nil ?_
              change wpList _ _ _ _ _ wr.drew
              go_wp2
              all_goals
                go_roundg g3
                case measure => omega
                case rel =>
                  refine ⟨j + 1, _, by omega, by go_num, Lib.hid ⟨HK.out _ ?_, HE3.out⟩⟩
                  omega
            · have hjn' : ¬ (j : Int) < (n : Nat) := by omega
              obtain rfl : gk = 0 := by omega
              have HE := Lib.hid (show E3 = blJ m i n 0 E2 from HS3.out.2)
              go_wp2
              go_roundg g2
              case measure => omega
              case rel => exact ⟨i + 1, E3, by omega, by go_num, Lib.hid ⟨HS3.out.1, by rw [HE.out]; exact HE2.out⟩⟩
        · have hin' : ¬ (i : Int) < (n : Nat) := by omega
          obtain rfl : gk = 0 := by omega
          have HE := Lib.hid (show E2 = blI n m n 0 E1 from HS2.out.2)
          go_wp2
          go_roundg g1
          case measure => omega
          case rel => exact ⟨m + 1, E2, by omega, by go_num, Lib.hid ⟨HS2.out.1, by rw [HE.out]; exact HE1.out⟩⟩
    · have hmn' : ¬ (m : Int) < (n : Nat) := by omega
      obtain rfl : gk = 0 := by omega
      have HE := Lib.hid (show E1 = R from HS1.out.2)
      go_wp2
      go_ret
      exact ⟨b, c, V, rfl, by rw [← HE.out]; exact HS1.out.1⟩
end Go.Proofs.YtnalcgcdohlfiaaGreatDoor
namespace Go.Proofs.YtnalcgcdohlfiaaGreatDoor
open Go.RowKit
/-- what is said of a world holds wherever the blocks from b on are the same -/
def From (b : Nat) (w : World) (P : World → Prop) : Prop := ∀ W : World, (∀ k, b ≤ k → k < w.heap.size → W.heap[k]? = w.heap[k]?) → P W
theorem From.now {b : Nat} {w : World} {P : World → Prop} (h : From b w P) : P w := h w fun _ _ _ => rfl
theorem From.ext {b : Nat} {w w' : World} {P : World → Prop} (h : From b w P) (k : Ext w w') : From b w' P := fun W hW => h W fun q h1 h2 => (hW q h1 (by have := k.size; omega)).trans (k.block h2)
theorem From.g {b g : Nat} {w w' : World} {P : World → Prop} (h : From b w P) (k : ExtG g w w') (hg : g < b) : From b w' P := fun W hW => h W fun q h1 h2 => (hW q h1 (by have := k.size; omega)).trans (k.2.2.2.2 q h2 (by omega))
theorem From.low {b b' : Nat} {w : World} {P : World → Prop} (h : From b w P) (k : b' ≤ b) : From b' w P := fun W hW => h W fun q h1 h2 => hW q (by omega) h2
theorem From.imp {b : Nat} {w : World} {P Q : World → Prop} (h : From b w P) (k : ∀ W, P W → Q W) : From b w Q := fun W hW => k W (h W hW)
theorem From.and {b : Nat} {w : World} {P Q : World → Prop} (h : From b w P) (k : From b w Q) : From b w (fun W => P W ∧ Q W) := fun W hW => ⟨h W hW, k W hW⟩
theorem keepB_of {b : Nat} {w W : World} (h : ∀ k, b ≤ k → k < w.heap.size → W.heap[k]? = w.heap[k]?) : KeepB b w W := fun g _ _ hb hg _ => h g hb (heap_lt hg)
theorem OwnM.from_ {b : Nat} {w : World} {u : Value} {D : List (List Int)} {V : Nat → Value} (h : OwnM b w u D V) : ∃ A c, u = .slice A D.length c ∧ From b w (fun W => Mat W A c D) := by
  obtain ⟨A, c, e, -⟩ := h.mat
  refine ⟨A, c, e, fun W hW => ?_⟩
  obtain ⟨A', c', e', hM⟩ := (h.keep (keepB_of hW)).mat
  rw [e] at e'
  injection e' with e1 e2 e3
  subst e1; subst e3
  exact hM
theorem AccR.from_ {w W : World} {u : Value} {D : List (List Int)} (h : AccR w W u D) : ∃ A c, u = .slice A D.length c ∧ From w.heap.size W (fun W => Mat W A c D) := by
  obtain ⟨V, h⟩ := h
  exact h.own.from_
theorem BlR.from_ {w w' : World} {n : Nat} {E : List (List Int)} {e : Ending} (h : BlR w n E e w') : ∃ A c, e = .returned (.slice A E.length c) ∧ From w.heap.size w' (fun W => Mat W A c E) ∧ Ext w w' ∧ E.length = n := by
  obtain ⟨b, c, V, rfl, hO, -, hl, -, hx⟩ := h
  exact ⟨some ⟨b, 0, none⟩, c, by rw [hl], fun W hW => (hO.keep fun q hb hq => hW q hb hq).mat, hx, hl⟩
/-- rows and a Bool handed back -/
def TupF (w : World) (E : List (List Int)) (b : Bool) (e : Ending) (w' : World) : Prop := ∃ A c, e = .returned (.tuple #[.slice A (List.length E) c, .bool b]) ∧ From w.heap.size w' (fun W => Mat W A c E) ∧ Ext w w'
theorem TupR.f {w w' : World} {E : List (List Int)} {b : Bool} {e : Ending} (h : TupR w E b e w') : TupF w E b e w' := by
  obtain ⟨v, rfl, hA⟩ := h
  obtain ⟨A, c, rfl, hF⟩ := hA.from_
  exact ⟨A, c, rfl, hF, hA.x⟩
def madeV (D : List (List Int)) (kind : Int) (xs : List Int) : List (List Int) :=
  if kind = 0 then wpB D xs else if kind = 1 ∧ xs.length = 1 then woB D (ix xs 0) else if kind = 2 ∧ xs.length = 0 then fofV D else if kind = 3 ∧ xs.length = 0 then blwV D else []
def madeB (D : List (List Int)) (kind : Int) (xs : List Int) : Bool :=
  if kind = 0 then fitsB D xs else if kind = 1 ∧ xs.length = 1 then woOk D (ix xs 0) else if kind = 2 ∧ xs.length = 0 then decide (D.length ≤ 5) else if kind = 3 ∧ xs.length = 0 then true else false
theorem fir1_len {D : List (List Int)} {L : List (List Int)} {n : Nat} (h : ∀ i, i < L.length → (row L i).length = n) : ∀ g i b, i + g ≤ L.length → b.length = n → (fir1 D L g i b).length = n
  | 0, _, b, _, hb => hb
  | g + 1, i, b, hi, hb => by
    refine fir1_len h g (i + 1) _ (by omega) ?_
    show (if cmpM (ordD D (row L i)) b < 0 then ordD D (row L i) else b).length = n
    split
    · rw [ordD_len]; exact h i (by omega)
    · exact hb
theorem fofV_len {D : List (List Int)} (hs : spB D = true) : (fofV D).length = if D.length ≤ 5 then D.length else 0 := by
  unfold fofV
  by_cases h : D.length ≤ 5
  · rw [if_pos ⟨hs, h⟩, if_pos h]
    exact fir1_len (fun i hi => ((ordK_facts D.length D.length h (Nat.le_refl _)).2.2 i hi).1) _ _ _ (by omega) rfl
  · rw [if_neg (fun q => h q.2), if_neg h]
    rfl
theorem box_cells (w : World) (a b : Value) (T : TypeId) : (w.alloc (.cells #[a, b] T)).cell? ⟨w.heap.size, 0, none⟩ = some a ∧ (w.alloc (.cells #[a, b] T)).cell? ⟨w.heap.size, 1, none⟩ = some b :=
  ⟨by rw [cell_cells (heap_alloc_new w _)]; rfl, by rw [cell_cells (heap_alloc_new w _)]; rfl⟩
theorem iBelowOf_any (A : Option Addr) (cp : Nat) (D : List (List Int)) (w : World) (h : Mat w A cp D) (hf : farB D = true) : Calls Tryz.prog 93 #[.slice A D.length cp] w (BlR w D.length (blwV D)) := by
  have HC := Lib.hid (bestWays_any A cp D w h hf)
  clear h hf
  go_enter Tryz.func93, Tryz.ntmps93
  go_wp2_with (go_at_call 122; refine HC.out.mono ?_; rintro e w1 ⟨b, c, V, rfl, hS⟩)
  go_ret
  exact ⟨b, c, V, rfl, hS⟩
set_option maxRecDepth 100000 in
set_option maxHeartbeats 4000000 in
theorem nextSpace_any (A : Option Addr) (cp : Nat) (D : List (List Int)) (kind : Int) (X : Option Addr) (cx : Nat) (xs : List Int) (w : World) (h : Mat w A cp D) (hx : Ints w X cx xs) (hs : spB D = true) :
    Calls Tryz.prog 61 #[.slice A D.length cp, .agg #[.int .i64 kind, .slice X xs.length cx]] w (TupF w (madeV D kind xs) (madeB D kind xs)) := by
  have hcm := h.2.1
  have hlc := h.1
  unfold maxLen at hcm
  have hcx := hx.2.1
  have hlx := hx.1
  unfold maxLen at hcx
  have HM := Lib.hid h
  have HI := Lib.hid hx
  have HV := Lib.hid (show madeV D kind xs = if kind = 0 then wpB D xs else if kind = 1 ∧ xs.length = 1 then woB D (ix xs 0) else if kind = 2 ∧ xs.length = 0 then fofV D else if kind = 3 ∧ xs.length = 0 then blwV D else [] from rfl)
  have HB := Lib.hid (show madeB D kind xs = if kind = 0 then fitsB D xs else if kind = 1 ∧ xs.length = 1 then woOk D (ix xs 0) else if kind = 2 ∧ xs.length = 0 then decide (D.length ≤ 5) else if kind = 3 ∧ xs.length = 0 then true else false from rfl)
  have HWP := Lib.hid (fun W (q1 : Mat W A cp D) (q2 : Ints W X cx xs) => (iWithPoint_any A cp D X cx xs W q1 q2))
  have HWO := Lib.hid (fun p W (q1 : Mat W A cp D) => (iWithoutPoint_any A cp D p W q1))
  have HFI := Lib.hid (fun W (q1 : Mat W A cp D) => (iFirstOf_any A cp D W q1))
  have HBL := Lib.hid (fun W (q1 : Mat W A cp D) => (iBelowOf_any A cp D W q1 (spB_far hs)))
  have HNIL := Lib.hid (fun W (q : Ext w W) => show From w.heap.size W (fun W => Mat W none 0 []) from fun W' _ => Mat.nil W' none 0 (Nat.zero_le _))
  have HNIL2 := Lib.hid (fun (b : Nat) (W : World) => show From w.heap.size W (fun W => Mat W (some ⟨b, 0, none⟩) 0 []) from fun W' _ => Mat.nil W' _ 0 (Nat.zero_le _))
  have hbx := box_cells w (.int .i64 kind) (.slice X xs.length cx) 54
  obtain ⟨bx0, bx1⟩ := hbx
  have HBX := Lib.hid (And.intro bx0 bx1)
  clear h
  by_cases h0 : kind = 0
  · subst h0
    have HF := Lib.hid (show madeV D 0 xs = wpB D xs ∧ madeB D 0 xs = fitsB D xs from ⟨by rw [HV.out, if_pos rfl], by rw [HB.out, if_pos rfl]⟩)
    clear hs hx
    go_enter Tryz.func61, Tryz.ntmps61
    go_wp2_with fail
    refine (HWP.out _ (HM.out.ext (by repeat (first | exact Ext.refl _ | assumption | apply Ext.drewN' | apply Ext.alloc' | refine Ext.trans ?_ (by assumption)))) (HI.out.ext (by repeat (first | exact Ext.refl _ | assumption | apply Ext.drewN' | apply Ext.alloc' | refine Ext.trans ?_ (by assumption))))).mono ?_
    intro e w1 hT
    obtain ⟨A1, c1, rfl, hFr, hx1⟩ := hT.f
    have HFr := Lib.hid hFr
    clear hFr hT
    go_wp2
    go_ret2
    rw [HF.out.1, HF.out.2]
    exact ⟨_, _, rfl, HFr.out.low (by simp), Ext.trans (by repeat (first | exact Ext.refl _ | assumption | apply Ext.drewN' | apply Ext.alloc' | refine Ext.trans ?_ (by assumption))) hx1⟩
  have k0 : (kind == 0) = false := beq_eq_false_iff_ne.2 h0
  by_cases h1 : kind = 1 ∧ xs.length = 1
  · obtain ⟨h1, h1n⟩ := h1
    subst h1
    have HF := Lib.hid (show madeV D 1 xs = woB D (ix xs 0) ∧ madeB D 1 xs = woOk D (ix xs 0) from ⟨by rw [HV.out, if_neg h0, if_pos ⟨rfl, h1n⟩], by rw [HB.out, if_neg h0, if_pos ⟨rfl, h1n⟩]⟩)
    have hn1 : ((xs.length : Int) == 1) = true := beq_iff_eq.2 (by omega)
    obtain ⟨-, -, bX, oX, hX, hcX⟩ := hx
    obtain rfl := hX (by omega)
    have HCX := Lib.hid (fun W (q : Ext w W) => q.cell (hcX 0 (by omega)))
    have c0 := HCX.out (w.alloc (.cells #[.int .i64 1, .slice (some ⟨bX, oX, none⟩) xs.length cx] 54)) (Ext.alloc _ _)
    rw [Nat.add_zero] at c0
    have hpos : (0 : Int) < (xs.length : Nat) := by omega
    obtain ⟨Y, hY⟩ : ∃ Y, ix xs 0 = Y := ⟨_, rfl⟩
    rw [hY] at HF c0
    clear h0 h1n hs hcX hY hX
    go_enter Tryz.func61, Tryz.ntmps61
    go_wp2_with fail
    refine (HWO.out _ _ (HM.out.ext (by repeat (first | exact Ext.refl _ | assumption | apply Ext.drewN' | apply Ext.alloc' | refine Ext.trans ?_ (by assumption))))).mono ?_
    intro e w1 hT
    obtain ⟨A1, c1, rfl, hFr, hx1⟩ := hT.f
    have HFr := Lib.hid hFr
    clear hFr hT
    go_wp2
    go_ret2
    rw [HF.out.1, HF.out.2]
    exact ⟨_, _, rfl, HFr.out.low (by simp), Ext.trans (by repeat (first | exact Ext.refl _ | assumption | apply Ext.drewN' | apply Ext.alloc' | refine Ext.trans ?_ (by assumption))) hx1⟩
  by_cases h2 : kind = 2 ∧ xs.length = 0
  · obtain ⟨h2, h2n⟩ := h2
    subst h2
    have HF := Lib.hid (show madeV D 2 xs = fofV D ∧ madeB D 2 xs = decide (D.length ≤ 5) from ⟨by rw [HV.out, if_neg h0, if_neg h1, if_pos ⟨rfl, h2n⟩], by rw [HB.out, if_neg h0, if_neg h1, if_pos ⟨rfl, h2n⟩]⟩)
    have hn0 : ((xs.length : Int) == 0) = true := beq_iff_eq.2 (by omega)
    have HFL := Lib.hid (fofV_len hs)
    have hn1 := (spB_len hs).1
    clear h0 h1 h2n hs hx
    go_enter Tryz.func61, Tryz.ntmps61
    go_wp2_with fail
    refine (HFI.out _ (HM.out.ext (by repeat (first | exact Ext.refl _ | assumption | apply Ext.drewN' | apply Ext.alloc' | refine Ext.trans ?_ (by assumption))))).mono ?_
    rintro e w1 ⟨v, rfl, hA⟩
    obtain ⟨A1, c1, rfl, hFr⟩ := hA.from_
    have hx1 := hA.x
    have HFr := Lib.hid hFr
    have HH := Lib.hid (show madeB D 2 xs = decide (0 < (fofV D).length) by
      rw [HF.out.2, HFL.out]
      refine decide_eq_decide.2 ?_
      split <;> omega)
    clear hA
    go_wp2
    go_ret2
    rw [HF.out.1, HH.out]
    exact ⟨_, _, rfl, HFr.out.low (by simp), Ext.trans (by repeat (first | exact Ext.refl _ | assumption | apply Ext.drewN' | apply Ext.alloc' | refine Ext.trans ?_ (by assumption))) hx1⟩
  by_cases h3 : kind = 3 ∧ xs.length = 0
  · obtain ⟨h3, h3n⟩ := h3
    subst h3
    have HF := Lib.hid (show madeV D 3 xs = blwV D ∧ madeB D 3 xs = true from ⟨by rw [HV.out, if_neg h0, if_neg h1, if_neg h2, if_pos ⟨rfl, h3n⟩], by rw [HB.out, if_neg h0, if_neg h1, if_neg h2, if_pos ⟨rfl, h3n⟩]⟩)
    have hn0 : ((xs.length : Int) == 0) = true := beq_iff_eq.2 (by omega)
    clear h0 h1 h2 h3n hs hx
    go_enter Tryz.func61, Tryz.ntmps61
    go_wp2_with fail
    refine (HBL.out _ (HM.out.ext (by repeat (first | exact Ext.refl _ | assumption | apply Ext.drewN' | apply Ext.alloc' | refine Ext.trans ?_ (by assumption))))).mono ?_
    intro e w1 hT
    obtain ⟨A1, c1, rfl, hFr, hx1, -⟩ := hT.from_
    have HFr := Lib.hid hFr
    clear hFr hT
    go_wp2
    go_ret2
    rw [HF.out.1, HF.out.2]
    exact ⟨_, _, rfl, HFr.out.low (by simp), Ext.trans (by repeat (first | exact Ext.refl _ | assumption | apply Ext.drewN' | apply Ext.alloc' | refine Ext.trans ?_ (by assumption))) hx1⟩
  · have HF := Lib.hid (show madeV D kind xs = [] ∧ madeB D kind xs = false from ⟨by rw [HV.out, if_neg h0, if_neg h1, if_neg h2, if_neg h3], by rw [HB.out, if_neg h0, if_neg h1, if_neg h2, if_neg h3]⟩)
    have r1 : (kind == 1) = false ∨ ((kind == 1) = true ∧ ((xs.length : Int) == 1) = false) := by
      by_cases q : kind = 1
      · exact .inr ⟨beq_iff_eq.2 q, beq_eq_false_iff_ne.2 fun e => h1 ⟨q, by omega⟩⟩
      · exact .inl (beq_eq_false_iff_ne.2 q)
    have r2 : (kind == 2) = false ∨ ((kind == 2) = true ∧ ((xs.length : Int) == 0) = false) := by
      by_cases q : kind = 2
      · exact .inr ⟨beq_iff_eq.2 q, beq_eq_false_iff_ne.2 fun e => h2 ⟨q, by omega⟩⟩
      · exact .inl (beq_eq_false_iff_ne.2 q)
    have r3 : (kind == 3) = false ∨ ((kind == 3) = true ∧ ((xs.length : Int) == 0) = false) := by
      by_cases q : kind = 3
      · exact .inr ⟨beq_iff_eq.2 q, beq_eq_false_iff_ne.2 fun e => h3 ⟨q, by omega⟩⟩
      · exact .inl (beq_eq_false_iff_ne.2 q)
    clear h0 h1 h2 h3 hs hx
    rcases r1 with r1 | ⟨r1, s1⟩ <;> rcases r2 with r2 | ⟨r2, s2⟩ <;> rcases r3 with r3 | ⟨r3, s3⟩
    all_goals
      first
      | (exfalso; have a1 := beq_iff_eq.1 r1; have a2 := beq_iff_eq.1 r2; omega)
      | (exfalso; have a1 := beq_iff_eq.1 r1; have a2 := beq_iff_eq.1 r3; omega)
      | (exfalso; have a1 := beq_iff_eq.1 r2; have a2 := beq_iff_eq.1 r3; omega)
      | (go_enter Tryz.func61, Tryz.ntmps61
         go_wp2
         go_ret2
         rw [HF.out.1, HF.out.2]
         first
         | exact ⟨_, _, rfl, HNIL.out _ (by repeat (first | exact Ext.refl _ | assumption | apply Ext.drewN' | apply Ext.alloc' | refine Ext.trans ?_ (by assumption))), (by repeat (first | exact Ext.refl _ | assumption | apply Ext.drewN' | apply Ext.alloc' | refine Ext.trans ?_ (by assumption)))⟩
         | exact ⟨_, _, rfl, HNIL2.out _ _, (by repeat (first | exact Ext.refl _ | assumption | apply Ext.drewN' | apply Ext.alloc' | refine Ext.trans ?_ (by assumption)))⟩)
set_option maxRecDepth 100000 in
set_option maxHeartbeats 4000000 in
theorem l11Made_any (A : Option Addr) (cp : Nat) (D : List (List Int)) (kind : Int) (X : Option Addr) (cx : Nat) (xs : List Int) (w : World) (h : Mat w A cp D) (hx : Ints w X cx xs) (hs : spB D = true) :
    Calls Tryz.prog 51 #[.slice A D.length cp, .agg #[.int .i64 kind, .slice X xs.length cx]] w (TupF w (madeV D kind xs) (madeB D kind xs)) := by
  have hcm := h.2.1
  have hlc := h.1
  unfold maxLen at hcm
  have hcx := hx.2.1
  have hlx := hx.1
  unfold maxLen at hcx
  have HM := Lib.hid h
  have HI := Lib.hid hx
  have HV := Lib.hid (show madeV D kind xs = if kind = 0 then wpB D xs else if kind = 1 ∧ xs.length = 1 then woB D (ix xs 0) else if kind = 2 ∧ xs.length = 0 then fofV D else if kind = 3 ∧ xs.length = 0 then blwV D else [] from rfl)
  have HB := Lib.hid (show madeB D kind xs = if kind = 0 then fitsB D xs else if kind = 1 ∧ xs.length = 1 then woOk D (ix xs 0) else if kind = 2 ∧ xs.length = 0 then decide (D.length ≤ 5) else if kind = 3 ∧ xs.length = 0 then true else false from rfl)
  have HWP := Lib.hid (fun W (q1 : Mat W A cp D) (q2 : Ints W X cx xs) => (sWithPoint_ex A cp D X cx xs W q1 q2))
  have HWO := Lib.hid (fun p W (q1 : Mat W A cp D) => (sWithoutPoint_any A cp D p W q1))
  have HFI := Lib.hid (fun W (q1 : Mat W A cp D) => (sFirstOf_any A cp D W q1))
  have HBL := Lib.hid (fun W (q1 : Mat W A cp D) => (sBelowOf_any A cp D W q1 (spB_far hs)))
  have HNIL := Lib.hid (fun W (q : Ext w W) => show From w.heap.size W (fun W => Mat W none 0 []) from fun W' _ => Mat.nil W' none 0 (Nat.zero_le _))
  have HNIL2 := Lib.hid (fun (b : Nat) (W : World) => show From w.heap.size W (fun W => Mat W (some ⟨b, 0, none⟩) 0 []) from fun W' _ => Mat.nil W' _ 0 (Nat.zero_le _))
  have hbx := box_cells w (.int .i64 kind) (.slice X xs.length cx) 54
  obtain ⟨bx0, bx1⟩ := hbx
  have HBX := Lib.hid (And.intro bx0 bx1)
  clear h
  by_cases h0 : kind = 0
  · subst h0
    have HF := Lib.hid (show madeV D 0 xs = wpB D xs ∧ madeB D 0 xs = fitsB D xs from ⟨by rw [HV.out, if_pos rfl], by rw [HB.out, if_pos rfl]⟩)
    clear hs hx
    go_enter Tryz.func51, Tryz.ntmps51
    go_wp2_with fail
    refine (HWP.out _ (HM.out.ext (by repeat (first | exact Ext.refl _ | assumption | apply Ext.drewN' | apply Ext.alloc' | refine Ext.trans ?_ (by assumption)))) (HI.out.ext (by repeat (first | exact Ext.refl _ | assumption | apply Ext.drewN' | apply Ext.alloc' | refine Ext.trans ?_ (by assumption))))).mono ?_
    intro e w1 hT
    obtain ⟨A1, c1, rfl, hFr, hx1⟩ := hT.f
    have HFr := Lib.hid hFr
    clear hFr hT
    go_wp2
    go_ret2
    rw [HF.out.1, HF.out.2]
    exact ⟨_, _, rfl, HFr.out.low (by simp), Ext.trans (by repeat (first | exact Ext.refl _ | assumption | apply Ext.drewN' | apply Ext.alloc' | refine Ext.trans ?_ (by assumption))) hx1⟩
  have k0 : (kind == 0) = false := beq_eq_false_iff_ne.2 h0
  by_cases h1 : kind = 1 ∧ xs.length = 1
  · obtain ⟨h1, h1n⟩ := h1
    subst h1
    have HF := Lib.hid (show madeV D 1 xs = woB D (ix xs 0) ∧ madeB D 1 xs = woOk D (ix xs 0) from ⟨by rw [HV.out, if_neg h0, if_pos ⟨rfl, h1n⟩], by rw [HB.out, if_neg h0, if_pos ⟨rfl, h1n⟩]⟩)
    have hn1 : ((xs.length : Int) == 1) = true := beq_iff_eq.2 (by omega)
    obtain ⟨-, -, bX, oX, hX, hcX⟩ := hx
    obtain rfl := hX (by omega)
    have HCX := Lib.hid (fun W (q : Ext w W) => q.cell (hcX 0 (by omega)))
    have c0 := HCX.out (w.alloc (.cells #[.int .i64 1, .slice (some ⟨bX, oX, none⟩) xs.length cx] 54)) (Ext.alloc _ _)
    rw [Nat.add_zero] at c0
    have hpos : (0 : Int) < (xs.length : Nat) := by omega
    obtain ⟨Y, hY⟩ : ∃ Y, ix xs 0 = Y := ⟨_, rfl⟩
    rw [hY] at HF c0
    clear h0 h1n hs hcX hY hX
    go_enter Tryz.func51, Tryz.ntmps51
    go_wp2_with fail
    refine (HWO.out _ _ (HM.out.ext (by repeat (first | exact Ext.refl _ | assumption | apply Ext.drewN' | apply Ext.alloc' | refine Ext.trans ?_ (by assumption))))).mono ?_
    intro e w1 hT
    obtain ⟨A1, c1, rfl, hFr, hx1⟩ := hT.f
    have HFr := Lib.hid hFr
    clear hFr hT
    go_wp2
    go_ret2
    rw [HF.out.1, HF.out.2]
    exact ⟨_, _, rfl, HFr.out.low (by simp), Ext.trans (by repeat (first | exact Ext.refl _ | assumption | apply Ext.drewN' | apply Ext.alloc' | refine Ext.trans ?_ (by assumption))) hx1⟩
  by_cases h2 : kind = 2 ∧ xs.length = 0
  · obtain ⟨h2, h2n⟩ := h2
    subst h2
    have HF := Lib.hid (show madeV D 2 xs = fofV D ∧ madeB D 2 xs = decide (D.length ≤ 5) from ⟨by rw [HV.out, if_neg h0, if_neg h1, if_pos ⟨rfl, h2n⟩], by rw [HB.out, if_neg h0, if_neg h1, if_pos ⟨rfl, h2n⟩]⟩)
    have hn0 : ((xs.length : Int) == 0) = true := beq_iff_eq.2 (by omega)
    have HFL := Lib.hid (fofV_len hs)
    have hn1 := (spB_len hs).1
    clear h0 h1 h2n hs hx
    by_cases h5 : D.length ≤ 5
    · have h5' : (D.length : Int) ≤ 5 := by omega
      have HH := Lib.hid (show madeB D 2 xs = true by rw [HF.out.2, decide_eq_true h5])
      go_enter Tryz.func51, Tryz.ntmps51
      go_wp2_with fail
      refine (HFI.out _ (HM.out.ext (by repeat (first | exact Ext.refl _ | assumption | apply Ext.drewN' | apply Ext.alloc' | refine Ext.trans ?_ (by assumption))))).mono ?_
      rintro e w1 ⟨v, rfl, hA⟩
      obtain ⟨A1, c1, rfl, hFr⟩ := hA.from_
      have hx1 := hA.x
      have HFr := Lib.hid hFr
      clear hFr hA
      go_wp2
      go_ret2
      rw [HF.out.1, HH.out]
      exact ⟨_, _, rfl, HFr.out.low (by simp), Ext.trans (by repeat (first | exact Ext.refl _ | assumption | apply Ext.drewN' | apply Ext.alloc' | refine Ext.trans ?_ (by assumption))) hx1⟩
    · have h5' : ¬ (D.length : Int) ≤ 5 := by omega
      have HH := Lib.hid (show madeB D 2 xs = false by rw [HF.out.2, decide_eq_false h5])
      have HE := Lib.hid (show fofV D = [] from List.eq_nil_of_length_eq_zero (by rw [HFL.out, if_neg h5]))
      go_enter Tryz.func51, Tryz.ntmps51
      go_wp2
      go_ret2
      rw [HF.out.1, HH.out, HE.out]
      first
      | exact ⟨_, _, rfl, HNIL.out _ (by repeat (first | exact Ext.refl _ | assumption | apply Ext.drewN' | apply Ext.alloc' | refine Ext.trans ?_ (by assumption))), (by repeat (first | exact Ext.refl _ | assumption | apply Ext.drewN' | apply Ext.alloc' | refine Ext.trans ?_ (by assumption)))⟩
      | exact ⟨_, _, rfl, HNIL2.out _ _, (by repeat (first | exact Ext.refl _ | assumption | apply Ext.drewN' | apply Ext.alloc' | refine Ext.trans ?_ (by assumption)))⟩
  by_cases h3 : kind = 3 ∧ xs.length = 0
  · obtain ⟨h3, h3n⟩ := h3
    subst h3
    have HF := Lib.hid (show madeV D 3 xs = blwV D ∧ madeB D 3 xs = true from ⟨by rw [HV.out, if_neg h0, if_neg h1, if_neg h2, if_pos ⟨rfl, h3n⟩], by rw [HB.out, if_neg h0, if_neg h1, if_neg h2, if_pos ⟨rfl, h3n⟩]⟩)
    have hn0 : ((xs.length : Int) == 0) = true := beq_iff_eq.2 (by omega)
    clear h0 h1 h2 h3n hs hx
    go_enter Tryz.func51, Tryz.ntmps51
    go_wp2_with fail
    refine (HBL.out _ (HM.out.ext (by repeat (first | exact Ext.refl _ | assumption | apply Ext.drewN' | apply Ext.alloc' | refine Ext.trans ?_ (by assumption))))).mono ?_
    intro e w1 hT
    obtain ⟨A1, c1, rfl, hFr, hx1, -⟩ := hT.from_
    have HFr := Lib.hid hFr
    clear hFr hT
    go_wp2
    go_ret2
    rw [HF.out.1, HF.out.2]
    exact ⟨_, _, rfl, HFr.out.low (by simp), Ext.trans (by repeat (first | exact Ext.refl _ | assumption | apply Ext.drewN' | apply Ext.alloc' | refine Ext.trans ?_ (by assumption))) hx1⟩
  · have HF := Lib.hid (show madeV D kind xs = [] ∧ madeB D kind xs = false from ⟨by rw [HV.out, if_neg h0, if_neg h1, if_neg h2, if_neg h3], by rw [HB.out, if_neg h0, if_neg h1, if_neg h2, if_neg h3]⟩)
    have r1 : (kind == 1) = false ∨ ((kind == 1) = true ∧ ((xs.length : Int) == 1) = false) := by
      by_cases q : kind = 1
      · exact .inr ⟨beq_iff_eq.2 q, beq_eq_false_iff_ne.2 fun e => h1 ⟨q, by omega⟩⟩
      · exact .inl (beq_eq_false_iff_ne.2 q)
    have r2 : (kind == 2) = false ∨ ((kind == 2) = true ∧ ((xs.length : Int) == 0) = false) := by
      by_cases q : kind = 2
      · exact .inr ⟨beq_iff_eq.2 q, beq_eq_false_iff_ne.2 fun e => h2 ⟨q, by omega⟩⟩
      · exact .inl (beq_eq_false_iff_ne.2 q)
    have r3 : (kind == 3) = false ∨ ((kind == 3) = true ∧ ((xs.length : Int) == 0) = false) := by
      by_cases q : kind = 3
      · exact .inr ⟨beq_iff_eq.2 q, beq_eq_false_iff_ne.2 fun e => h3 ⟨q, by omega⟩⟩
      · exact .inl (beq_eq_false_iff_ne.2 q)
    clear h0 h1 h2 h3 hs hx
    rcases r1 with r1 | ⟨r1, s1⟩ <;> rcases r2 with r2 | ⟨r2, s2⟩ <;> rcases r3 with r3 | ⟨r3, s3⟩
    all_goals
      first
      | (exfalso; have a1 := beq_iff_eq.1 r1; have a2 := beq_iff_eq.1 r2; omega)
      | (exfalso; have a1 := beq_iff_eq.1 r1; have a2 := beq_iff_eq.1 r3; omega)
      | (exfalso; have a1 := beq_iff_eq.1 r2; have a2 := beq_iff_eq.1 r3; omega)
      | (go_enter Tryz.func51, Tryz.ntmps51
         go_wp2
         go_ret2
         rw [HF.out.1, HF.out.2]
         first
         | exact ⟨_, _, rfl, HNIL.out _ (by repeat (first | exact Ext.refl _ | assumption | apply Ext.drewN' | apply Ext.alloc' | refine Ext.trans ?_ (by assumption))), (by repeat (first | exact Ext.refl _ | assumption | apply Ext.drewN' | apply Ext.alloc' | refine Ext.trans ?_ (by assumption)))⟩
         | exact ⟨_, _, rfl, HNIL2.out _ _, (by repeat (first | exact Ext.refl _ | assumption | apply Ext.drewN' | apply Ext.alloc' | refine Ext.trans ?_ (by assumption)))⟩)
end Go.Proofs.YtnalcgcdohlfiaaGreatDoor
namespace Go.Proofs.YtnalcgcdohlfiaaGreatDoor
open Go.RowKit
theorem sp_tri {D : List (List Int)} (h : spB D = true) : ∀ i, i < D.length → ∀ k, k < D.length → ∀ j, j < D.length → at2 D i k ≤ at2 D i j + at2 D j k := by
  unfold spB at h
  rw [Bool.and_eq_true] at h
  intro i hi k hk j hj
  have h1 := (allR_all _ _).1 h.2 i hi
  have h2 := (allR_all _ _).1 h1 k hk
  have h3 := (allR_all _ _).1 h2 j hj
  exact of_decide_eq_true h3
/-- a space by its parts -/
theorem sp_mk {D : List (List Int)} (h1 : 1 ≤ D.length) (h6 : D.length ≤ 6) (hsq : Sq D) (hc : ∀ i, i < D.length → ∀ k, k < D.length → (0 ≤ at2 D i k ∧ at2 D i k ≤ 60) ∧ at2 D i k = at2 D k i ∧ (at2 D i k = 0 ↔ i = k))
    (ht : ∀ i, i < D.length → ∀ k, k < D.length → ∀ j, j < D.length → at2 D i k ≤ at2 D i j + at2 D j k) : spB D = true := by
  unfold spB farB
  rw [Bool.and_eq_true, Bool.and_eq_true, Bool.and_eq_true]
  refine ⟨⟨decide_eq_true ⟨h1, h6⟩, sq_sqB hsq, ?_⟩, ?_⟩
  · refine (allR_all _ _).2 fun i hi => (allR_all _ _).2 fun k hk => ?_
    obtain ⟨⟨a, b⟩, c, d⟩ := hc i hi k hk
    exact decide_eq_true ⟨a, b, c, d⟩
  · exact (allR_all _ _).2 fun i hi => (allR_all _ _).2 fun k hk => (allR_all _ _).2 fun j hj => decide_eq_true (ht i hi k hk j hj)
theorem wpV_at {D : List (List Int)} {xs : List Int} (hsq : Sq D) (hl : xs.length = D.length) {i k : Nat} (hi : i ≤ D.length) (hk : k ≤ D.length) :
    at2 (wpV D xs) i k = if i < D.length then (if k < D.length then at2 D i k else ix xs i) else (if k < D.length then ix xs k else 0) := by
  unfold at2
  by_cases h1 : i < D.length
  · rw [if_pos h1, wpV_row h1]
    have hr := hsq i h1
    by_cases h2 : k < D.length
    · rw [if_pos h2]
      unfold ix
      simp [List.getD, List.getElem?_append_left (show k < (row D i).length by omega)]
    · rw [if_neg h2]
      obtain rfl : k = D.length := by omega
      unfold ix
      simp [List.getD, hr]
  · rw [if_neg h1]
    obtain rfl : i = D.length := by omega
    rw [wpV_last]
    by_cases h2 : k < D.length
    · rw [if_pos h2]
      unfold ix
      simp [List.getD, List.getElem?_append_left (show k < xs.length by omega)]
    · rw [if_neg h2]
      obtain rfl : k = D.length := by omega
      unfold ix
      simp [List.getD, hl]
theorem wpV_sp {D : List (List Int)} {xs : List Int} (h : fitsB D xs = true) : spB (wpV D xs) = true := by
  obtain ⟨hs, h6, hl, hI, hA⟩ := fits_parts h
  obtain ⟨⟨n1, -⟩, hsq, hc⟩ := farB_parts (spB_far hs)
  have hin : ∀ k, k < D.length → 1 ≤ ix xs k ∧ ix xs k ≤ 60 := fun k hk => inB_iff.1 ((allR_all _ _).1 hI k hk)
  have hcell : ∀ k, k < D.length → ∀ j, j < D.length → ix xs k - ix xs j ≤ at2 D k j ∧ (k = j ∨ at2 D k j ≤ ix xs k + ix xs j) := fun k hk j hj => by
    have := (allR_all _ _).1 ((allR_all _ _).1 hA k hk) j hj
    unfold pfC at this
    rw [Bool.and_eq_true, Bool.or_eq_true] at this
    exact ⟨of_decide_eq_true this.1, this.2.imp of_decide_eq_true of_decide_eq_true⟩
  have ht := sp_tri hs
  have hlen := wpV_len D xs
  refine sp_mk (by omega) (by omega) (fun i hi => ?_) (fun i hi k hk => ?_) (fun i hi k hk j hj => ?_)
  · rw [hlen] at hi ⊢
    by_cases q : i < D.length
    · rw [wpV_row q, List.length_append, hsq i q]; rfl
    · obtain rfl : i = D.length := by omega
      rw [wpV_last, List.length_append, hl]; rfl
  · rw [hlen] at hi hk
    rw [wpV_at hsq hl (by omega) (by omega), wpV_at hsq hl (by omega) (by omega)]
    by_cases q1 : i < D.length
    · by_cases q2 : k < D.length
      · simp only [if_pos q1, if_pos q2]
        obtain ⟨a, b, c, d⟩ := hc i q1 k q2
        exact ⟨⟨a, b⟩, c, d⟩
      · simp only [if_pos q1, if_neg q2]
        have := hin i q1
        exact ⟨by omega, by first | rfl | trivial, by omega⟩
    · by_cases q2 : k < D.length
      · simp only [if_neg q1, if_pos q2]
        have := hin k q2
        exact ⟨by omega, by first | rfl | trivial, by omega⟩
      · have e : i = k := by omega
        simp only [if_neg q1, if_neg q2]
        exact ⟨by omega, by first | rfl | trivial, by simp [e]⟩
  · rw [hlen] at hi hk hj
    rw [wpV_at hsq hl (by omega) (by omega), wpV_at hsq hl (by omega) (by omega), wpV_at hsq hl (by omega) (by omega)]
    by_cases q1 : i < D.length <;> by_cases q2 : k < D.length <;> by_cases q3 : j < D.length
    · simp only [if_pos q1, if_pos q2, if_pos q3]; exact ht i q1 k q2 j q3
    · simp only [if_pos q1, if_pos q2, if_neg q3]
      rcases (hcell i q1 k q2).2 with e | e
      · subst e
        have h0 := (hc i q1 i q1).2.2.2.2 rfl
        have := hin i q1
        omega
      · exact e
    · simp only [if_pos q1, if_neg q2, if_pos q3]
      have := (hcell i q1 j q3).1
      omega
    · simp only [if_pos q1, if_neg q2, if_neg q3]; omega
    · simp only [if_neg q1, if_pos q2, if_pos q3]
      have h1 := (hcell k q2 j q3).1
      have h2 := (hc k q2 j q3).2.2.1
      omega
    · simp only [if_neg q1, if_pos q2, if_neg q3]; omega
    · simp only [if_neg q1, if_neg q2, if_pos q3]
      have := hin j q3
      omega
    · simp only [if_neg q1, if_neg q2, if_neg q3]; omega
/-- the place of a point that is left -/
def skp (p i : Nat) : Nat := if i < p then i else i + 1
theorem woV_row {D : List (List Int)} {p i : Nat} (hi : i < (D.eraseIdx p).length) : row (woV D p) i = (row D (skp p i)).eraseIdx p := by
  unfold woV skp
  have h1 : i < ((D.eraseIdx p).map fun r => r.eraseIdx p).length := by simpa using hi
  rw [row_of h1, List.getElem_map, List.getElem_eraseIdx]
  split
  · rw [row_of]
  · rw [row_of]
theorem ix_erase {xs : List Int} {p k : Nat} (hk : k < (xs.eraseIdx p).length) : ix (xs.eraseIdx p) k = ix xs (skp p k) := by
  unfold skp
  rw [ix_of hk, List.getElem_eraseIdx]
  split
  · rw [ix_of]
  · rw [ix_of]
theorem woV_sp {D : List (List Int)} {p : Nat} (hs : spB D = true) (hp : p < D.length) (h2 : 2 ≤ D.length) : spB (woV D p) = true := by
  obtain ⟨⟨n1, n6⟩, hsq, hc⟩ := farB_parts (spB_far hs)
  have ht := sp_tri hs
  have hlen : (woV D p).length = D.length - 1 := by unfold woV; rw [List.length_map, List.length_eraseIdx, if_pos hp]
  have hle : (D.eraseIdx p).length = D.length - 1 := by rw [List.length_eraseIdx, if_pos hp]
  have hsk : ∀ i, i < D.length - 1 → skp p i < D.length := fun i hi => by unfold skp; split <;> omega
  have hat : ∀ i, i < D.length - 1 → ∀ k, k < D.length - 1 → at2 (woV D p) i k = at2 D (skp p i) (skp p k) := fun i hi k hk => by
    unfold at2
    rw [woV_row (by omega), ix_erase]
    rw [List.length_eraseIdx, if_pos (by rw [hsq _ (hsk i hi)]; exact hp), hsq _ (hsk i hi)]
    exact hk
  refine sp_mk (by omega) (by omega) (fun i hi => ?_) (fun i hi k hk => ?_) (fun i hi k hk j hj => ?_)
  · rw [hlen] at hi ⊢
    rw [woV_row (by omega), List.length_eraseIdx, if_pos (by rw [hsq _ (hsk i hi)]; exact hp), hsq _ (hsk i hi)]
  · rw [hlen] at hi hk
    rw [hat i hi k hk, hat k hk i hi]
    obtain ⟨a, b, c, d⟩ := hc _ (hsk i hi) _ (hsk k hk)
    refine ⟨⟨a, b⟩, c, d.trans ⟨fun e => ?_, fun e => by rw [e]⟩⟩
    unfold skp at e
    split at e <;> split at e <;> omega
  · rw [hlen] at hi hk hj
    rw [hat i hi k hk, hat i hi j hj, hat j hj k hk]
    exact ht _ (hsk i hi) _ (hsk k hk) _ (hsk j hj)
theorem ordD_sp {D : List (List Int)} {o : List Int} (hs : spB D = true) (ho : ordOk o = true) (hl : o.length = D.length) : spB (ordD D o) = true := by
  obtain ⟨⟨n1, n6⟩, hsq, hc⟩ := farB_parts (spB_far hs)
  have ht := sp_tri hs
  obtain ⟨-, -, h3, h4⟩ := ordOk_facts ho
  have hlt : ∀ i, i < o.length → (ix o i).toNat < D.length := fun i hi => by have := h3 i hi; omega
  refine sp_mk (by rw [ordD_len]; omega) (by rw [ordD_len]; omega) (ordD_sq D o) (fun i hi k hk => ?_) (fun i hi k hk j hj => ?_)
  · rw [ordD_len] at hi hk
    rw [ordD_at hi hk, ordD_at hk hi]
    obtain ⟨a, b, c, d⟩ := hc _ (hlt i hi) _ (hlt k hk)
    refine ⟨⟨a, b⟩, c, d.trans ⟨fun e => h4 i k hi hk ?_, fun e => by rw [e]⟩⟩
    have := h3 i hi
    have := h3 k hk
    omega
  · rw [ordD_len] at hi hk hj
    rw [ordD_at hi hk, ordD_at hi hj, ordD_at hj hk]
    exact ht _ (hlt i hi) _ (hlt k hk) _ (hlt j hj)
theorem fir1_sp {D : List (List Int)} {L : List (List Int)} (h : ∀ i, i < L.length → spB (ordD D (row L i)) = true) : ∀ g i b, i + g ≤ L.length → spB b = true → spB (fir1 D L g i b) = true
  | 0, _, b, _, hb => hb
  | g + 1, i, b, hi, hb => by
    refine fir1_sp h g (i + 1) _ (by omega) ?_
    show spB (if cmpM (ordD D (row L i)) b < 0 then ordD D (row L i) else b) = true
    split
    · exact h i (by omega)
    · exact hb
theorem fofV_sp {D : List (List Int)} (hs : spB D = true) (h5 : D.length ≤ 5) : spB (fofV D) = true := by
  have n1 := (spB_len hs).1
  unfold fofV
  rw [if_pos ⟨hs, h5⟩]
  refine fir1_sp (fun i hi => ordD_sp hs (ordK_ok _ n1 h5 i hi) ((ordK_facts _ _ h5 (Nat.le_refl _)).2.2 i hi).1) _ _ _ (by omega) hs
/-- what the steps keep -/
def Blq (n : Nat) (E : List (List Int)) : Prop := Sq E ∧ E.length = n
theorem blw_q {n m i j : Nat} {E : List (List Int)} (h : Blq n E) (hi : i < n) : Blq n (blw m i j E) := by
  obtain ⟨hs, hl⟩ := h
  exact ⟨hs.set2 (by omega) _, by unfold blw; rw [set2_len]; exact hl⟩
theorem blw_at {n m i j : Nat} {E : List (List Int)} (h : Blq n E) (hi : i < n) (hj : j < n) (a b : Nat) : at2 (blw m i j E) a b = if a = i ∧ b = j then min (at2 E i j) (max (at2 E i m) (at2 E m j)) else at2 E a b := by
  obtain ⟨hs, hl⟩ := h
  unfold blw
  rw [set2_at (by omega) (by rw [hs i (by omega)]; omega)]
/-- one row: places from j on -/
theorem blJ_at {n m i : Nat} (hi : i < n) (hm : m < n) : ∀ g j (E : List (List Int)), j + g = n → Blq n E → at2 E m m = 0 → (∀ a, a < n → 0 ≤ at2 E i a) →
    Blq n (blJ m i g j E) ∧ ∀ a b, a < n → b < n → at2 (blJ m i g j E) a b = if a = i ∧ j ≤ b then min (at2 E i b) (max (at2 E i m) (at2 E m b)) else at2 E a b
  | 0, j, E, hj, hE, _, _ => ⟨hE, fun a b ha hb => by rw [if_neg (by omega)]; rfl⟩
  | g + 1, j, E, hj, hE, h0, hp => by
    have hjn : j < n := by omega
    have hq := blw_q (m := m) (j := j) hE hi
    have hat := blw_at (m := m) hE hi hjn
    -- the cell (i, m) and the row m stay
    have him : at2 (blw m i j E) i m = at2 E i m := by
      rw [hat]
      by_cases e : m = j
      · subst e
        rw [if_pos ⟨rfl, rfl⟩]
        have := hp m hm
        by_cases e2 : i = m
        · subst e2; omega
        · rw [h0]; omega
      · rw [if_neg (by omega)]
    have hmr : ∀ b, b < n → at2 (blw m i j E) m b = at2 E m b := fun b hb => by
      rw [hat]
      by_cases e : m = i ∧ b = j
      · obtain ⟨rfl, rfl⟩ := e
        rw [if_pos ⟨rfl, rfl⟩]
        have := hp b hb
        have h0' : at2 E m m = 0 := h0
        omega
      · rw [if_neg e]
    obtain ⟨h1, h2⟩ := blJ_at hi hm g (j + 1) (blw m i j E) (by omega) hq (by rw [hmr m hm]; exact h0) (fun a ha => by
      rw [hat]
      split
      · have := hp j hjn
        have := hp m hm
        omega
      · exact hp a ha)
    refine ⟨h1, fun a b ha hb => ?_⟩
    have hstep : blJ m i (g + 1) j E = blJ m i g (j + 1) (blw m i j E) := rfl
    rw [hstep, h2 a b ha hb]
    by_cases e : a = i
    · subst e
      by_cases e1 : j + 1 ≤ b
      · rw [if_pos ⟨rfl, e1⟩, if_pos ⟨rfl, by omega⟩, him, hmr b hb, hat, if_neg (by omega)]
      · rw [if_neg (fun q => e1 q.2), hat]
        by_cases e2 : b = j
        · subst e2
          rw [if_pos ⟨rfl, rfl⟩, if_pos ⟨rfl, Nat.le_refl _⟩]
        · rw [if_neg (fun q => e2 q.2), if_neg (by omega)]
    · rw [if_neg (fun q => e q.1), if_neg (fun q => e q.1), hat, if_neg (fun q => e q.1)]
/-- all rows: rows from i on -/
theorem blI_at {n m : Nat} (hm : m < n) : ∀ g i (E : List (List Int)), i + g = n → Blq n E → at2 E m m = 0 → (∀ a, a < n → ∀ b, b < n → 0 ≤ at2 E a b) →
    Blq n (blI n m g i E) ∧ ∀ a b, a < n → b < n → at2 (blI n m g i E) a b = if i ≤ a then min (at2 E a b) (max (at2 E a m) (at2 E m b)) else at2 E a b
  | 0, i, E, hi, hE, _, _ => ⟨hE, fun a b ha hb => by rw [if_neg (by omega)]; rfl⟩
  | g + 1, i, E, hi, hE, h0, hp => by
    have hin : i < n := by omega
    obtain ⟨q1, q2⟩ := blJ_at hin hm n 0 E (by omega) hE h0 (hp i hin)
    have hat : ∀ a b, a < n → b < n → at2 (blJ m i n 0 E) a b = if a = i then min (at2 E a b) (max (at2 E a m) (at2 E m b)) else at2 E a b := fun a b ha hb => by
      rw [q2 a b ha hb]
      by_cases e : a = i
      · rw [if_pos ⟨e, Nat.zero_le _⟩, if_pos e, e]
      · rw [if_neg (fun q => e q.1), if_neg e]
    have hmr : ∀ b, b < n → at2 (blJ m i n 0 E) m b = at2 E m b := fun b hb => by
      rw [hat m b hm hb]
      by_cases e : m = i
      · rw [if_pos e, h0]
        have := hp m hm b hb
        omega
      · rw [if_neg e]
    obtain ⟨h1, h2⟩ := blI_at hm g (i + 1) (blJ m i n 0 E) (by omega) q1 (by rw [hmr m hm]; exact h0) (fun a ha b hb => by
      rw [hat a b ha hb]
      split
      · have := hp a ha b hb
        have := hp a ha m hm
        omega
      · exact hp a ha b hb)
    refine ⟨h1, fun a b ha hb => ?_⟩
    have hstep : blI n m (g + 1) i E = blI n m g (i + 1) (blJ m i n 0 E) := rfl
    rw [hstep, h2 a b ha hb]
    by_cases e : i + 1 ≤ a
    · rw [if_pos e, if_pos (by omega), hmr b hb, hat a b ha hb, hat a m ha hm, if_neg (by omega), if_neg (by omega)]
    · rw [if_neg e, hat a b ha hb]
      by_cases e2 : a = i
      · rw [if_pos e2, if_pos (by omega)]
      · rw [if_neg e2, if_neg (by omega)]
/-- a distance below, under way: over the points below m it is ultrametric -/
def BlP (n m : Nat) (E : List (List Int)) : Prop :=
  Blq n E ∧ (∀ a b, a < n → b < n → 0 ≤ at2 E a b ∧ at2 E a b ≤ 60 ∧ at2 E a b = at2 E b a ∧ (at2 E a b = 0 ↔ a = b)) ∧ ∀ j, j < m → ∀ a b, a < n → b < n → at2 E a b ≤ max (at2 E a j) (at2 E j b)
theorem blI_p {n m : Nat} {E : List (List Int)} (hm : m < n) (h : BlP n m E) : BlP n (m + 1) (blI n m n 0 E) := by
  obtain ⟨hq, hc, hu⟩ := h
  obtain ⟨h1, h2⟩ := blI_at hm n 0 E (by omega) hq ((hc m m hm hm).2.2.2.2 rfl) (fun a ha b hb => (hc a b ha hb).1)
  have hat : ∀ a b, a < n → b < n → at2 (blI n m n 0 E) a b = min (at2 E a b) (max (at2 E a m) (at2 E m b)) := fun a b ha hb => by rw [h2 a b ha hb, if_pos (Nat.zero_le _)]
  refine ⟨h1, fun a b ha hb => ?_, fun j hj a b ha hb => ?_⟩
  · rw [hat a b ha hb, hat b a hb ha]
    obtain ⟨x1, x2, x3, x4⟩ := hc a b ha hb
    obtain ⟨y1, y2, y3, y4⟩ := hc a m ha hm
    obtain ⟨z1, z2, z3, z4⟩ := hc m b hm hb
    refine ⟨by omega, by omega, by rw [← x3, ← y3, ← z3]; omega, fun e => ?_, fun e => ?_⟩
    · by_cases q : at2 E a b = 0
      · exact x4.1 q
      · have e1 := y4.1 (by omega)
        have e2 := z4.1 (by omega)
        omega
    · have := x4.2 e
      omega
  · rw [hat a b ha hb]
    by_cases e : j = m
    · subst e
      have hmm := (hc j j hm hm).2.2.2.2 rfl
      rw [hat a j ha hm, hat j b hm hb]
      have p1 := (hc a j ha hm).1
      have p2 := (hc j b hm hb).1
      omega
    · have hjn : j < n := by omega
      rw [hat a j ha hjn, hat j b hjn hb]
      have u1 := hu j (by omega) a b ha hb
      have u2 := hu j (by omega) a m ha hm
      have u3 := hu j (by omega) m b hm hb
      have u4 := hu j (by omega) m m hm hm
      have s1 := (hc m j hm hjn).2.2.1
      omega
theorem blM_p {n : Nat} : ∀ g m (E : List (List Int)), m + g = n → BlP n m E → BlP n n (blM n g m E)
  | 0, m, E, hm, h => by obtain rfl : m = n := by omega
                         exact h
  | g + 1, m, E, hm, h => blM_p g (m + 1) (blI n m n 0 E) (by omega) (blI_p (by omega) h)
theorem blwV_p {D : List (List Int)} (hf : farB D = true) : BlP D.length D.length (blwV D) := by
  obtain ⟨⟨n1, n6⟩, hsq, hc⟩ := farB_parts hf
  refine blM_p D.length 0 D (by omega) ⟨⟨hsq, rfl⟩, fun a b ha hb => ?_, fun j hj => absurd hj (by omega)⟩
  obtain ⟨x1, x2, x3, x4⟩ := hc a ha b hb
  exact ⟨x1, x2, x3, x4⟩
theorem blwV_sp {D : List (List Int)} (hf : farB D = true) : spB (blwV D) = true := by
  obtain ⟨⟨n1, n6⟩, -⟩ := farB_parts hf
  obtain ⟨⟨hsq, hl⟩, hc, hu⟩ := blwV_p hf
  refine sp_mk (by omega) (by omega) hsq (fun i hi k hk => ?_) (fun i hi k hk j hj => ?_)
  · obtain ⟨a, b, c, d⟩ := hc i k (by omega) (by omega)
    exact ⟨⟨a, b⟩, c, d⟩
  · have := hu j (by omega) i k (by omega) (by omega)
    have p1 := (hc i j (by omega) (by omega)).1
    have p2 := (hc j k (by omega) (by omega)).1
    omega
theorem blwV_ultra {D : List (List Int)} (hf : farB D = true) : ∀ i, i < (blwV D).length → ∀ k, k < (blwV D).length → ∀ j, j < (blwV D).length → at2 (blwV D) i k ≤ max (at2 (blwV D) i j) (at2 (blwV D) j k) := by
  obtain ⟨⟨hsq, hl⟩, hc, hu⟩ := blwV_p hf
  rw [hl]
  exact fun i hi k hk j hj => hu j hj i k hi hk
/-- what a deed makes of a space is a space -/
theorem made_sp {D : List (List Int)} {kind : Int} {xs : List Int} (hs : spB D = true) (h : madeB D kind xs = true) : spB (madeV D kind xs) = true := by
  unfold madeB at h
  unfold madeV
  by_cases h0 : kind = 0
  · rw [if_pos h0] at h ⊢
    unfold wpB
    rw [if_pos h]
    exact wpV_sp h
  rw [if_neg h0] at h ⊢
  by_cases h1 : kind = 1 ∧ xs.length = 1
  · rw [if_pos h1] at h ⊢
    unfold woB
    rw [if_pos h]
    unfold woOk pointB at h
    rw [Bool.and_eq_true, Bool.and_eq_true] at h
    have a := of_decide_eq_true h.1.2
    have b := of_decide_eq_true h.2
    exact woV_sp hs (by omega) b
  rw [if_neg h1] at h ⊢
  by_cases h2 : kind = 2 ∧ xs.length = 0
  · rw [if_pos h2] at h ⊢
    exact fofV_sp hs (of_decide_eq_true h)
  rw [if_neg h2] at h ⊢
  by_cases h3 : kind = 3 ∧ xs.length = 0
  · rw [if_pos h3]
    exact blwV_sp (spB_far hs)
  · rw [if_neg h3] at h
    cases h
end Go.Proofs.YtnalcgcdohlfiaaGreatDoor
