/- What is proved: spec.l7Orders, spec.l7Same and spec.l7Less return what impl's comparing says. Conditions: those of each contract. -/
import Derived.Test.YtbkefojepelggaaCopy
import Derived.Test.YtbkefojepelggaaSplit
namespace Go.Proofs.Ytbkefojepelggaa
open Go.RowKit
def lsI (xs ys : List Int) : Nat → Nat → Option Bool
  | 0, _ => none
  | g + 1, j => if ix xs j ≠ ix ys j then some (decide (ix xs j < ix ys j)) else lsI xs ys g (j + 1)
def lsQ (X Y : List (List Int)) (n : Nat) : Nat → Nat → Bool
  | 0, _ => false
  | g + 1, k => match lsI (row X k) (row Y k) n 0 with
    | some b => b
    | none => lsQ X Y n g (k + 1)
theorem lsI_cmp {xs ys : List Int} (hl : xs.length = ys.length) : ∀ g j, j + g = xs.length → (lsI xs ys g j = none ∧ cmpR xs ys g j = 0) ∨ (lsI xs ys g j = some true ∧ cmpR xs ys g j = -1) ∨ (lsI xs ys g j = some false ∧ cmpR xs ys g j = 1)
  | 0, j, _ => .inl ⟨rfl, by unfold cmpR; rw [if_neg (by omega)]⟩
  | g + 1, j, hj => by
    unfold lsI cmpR
    rw [if_neg (show ¬ ys.length ≤ j by omega)]
    by_cases q : ix xs j = ix ys j
    · rw [if_neg (fun h => h q), if_neg (fun h => h (cmpZ_zero.2 q))]
      exact lsI_cmp hl g (j + 1) (by omega)
    · rw [if_pos q, if_pos (fun h => q (cmpZ_zero.1 h))]
      unfold cmpZ
      by_cases c : ix xs j < ix ys j
      · rw [decide_eq_true c, if_pos c]
        exact .inr (.inl ⟨rfl, rfl⟩)
      · rw [decide_eq_false c, if_neg c, if_pos (by omega)]
        exact .inr (.inr ⟨rfl, rfl⟩)
theorem lsQ_cmp {X Y : List (List Int)} {n : Nat} (hX : X.length = n) (hY : Y.length = n) (h1 : ∀ i, i < n → (row X i).length = n) (h2 : ∀ i, i < n → (row Y i).length = n) : ∀ g k, k + g = n → lsQ X Y n g k = decide (cmpQ X Y g k < 0)
  | 0, k, _ => by
    unfold lsQ cmpQ
    rw [if_neg (by omega)]
    rfl
  | g + 1, k, hk => by
    unfold lsQ cmpQ
    rw [if_neg (show ¬ Y.length ≤ k by omega)]
    have e1 := h1 k (by omega)
    have e2 := h2 k (by omega)
    have hc : cmpI (row X k) (row Y k) = cmpR (row X k) (row Y k) n 0 := by unfold cmpI; rw [e1]
    rcases lsI_cmp (xs := row X k) (ys := row Y k) (by omega) n 0 (by omega) with ⟨a, b⟩ | ⟨a, b⟩ | ⟨a, b⟩
    · rw [a, hc, b, if_neg (fun h => h rfl)]
      exact lsQ_cmp hX hY h1 h2 g (k + 1) (by omega)
    · rw [a, hc, b, if_pos (by decide)]
      rfl
    · rw [a, hc, b, if_pos (by decide)]
      rfl
set_option maxRecDepth 100000 in
set_option maxHeartbeats 4000000 in
theorem l7Orders_any (n : Nat) (w : World) (hn : n ≤ 5) : Calls Try.prog 88 #[.int .i64 n] w (FreshM w (ordK n n)) := by
  have HF := Lib.hid (fun k (hk : k ≤ n) => ordK_facts n k hn hk)
  have HS := Lib.hid (fun k => (show ordK n (k + 1) = nxi n (ordK n k) (ordK n k).length from rfl))
  have HSi := Lib.hid (fun (L : List (List Int)) i => (show nxi n L (i + 1) = nxx (row L i) (nxi n L i) n from rfl))
  have HSx := Lib.hid (fun (l : List Int) acc x => (show nxx l acc (x + 1) = if (x : Int) ∈ l then nxx l acc x else nxx l acc x ++ [l ++ [(x : Int)]] from rfl))
  have H0 := Lib.hid (show ordK n 0 = [[]] from rfl)
  go_enter Try.func88, Try.ntmps88
  go_wp2
  go_loopg [4, 3] n (fun g s4 s3 wr => ∃ (k : Nat), k + g = n ∧ s4 = .int .i64 k ∧ Hid (AccR w wr s3 (ordK n k)))
  case atStart => exact ⟨0, by omega, rfl, Lib.hid (by rw [H0.out]; exact AccR.one (Ext.refl _))⟩
  case round =>
    obtain ⟨k, hk, rfl, HR⟩ := hrel
    by_cases hin : k < n
    · obtain ⟨gk1, rfl⟩ : ∃ g', gk = g' + 1 := ⟨gk - 1, by omega⟩
      have hin' : (k : Int) < (n : Nat) := by omega
      obtain ⟨A, c, hv, hM⟩ := HR.out.mat
      subst hv
      obtain ⟨f1, f2, f3⟩ := HF.out k (by omega)
      have HSk := Lib.hid (HS.out k)
      have hxq := HR.out.x
      obtain ⟨L, hL⟩ : ∃ L, ordK n k = L := ⟨_, rfl⟩
      rw [hL] at hM f1 f2 f3 HSk HR
      have HXW := Lib.hid hxq
      obtain ⟨h1, h2, -⟩ := id hM
      obtain ⟨b, o, R, rc, rb, ro, hA, hrow, hlen, hR, hcell, hints⟩ := hM.parts
      obtain rfl := hA (by omega)
      have HROW := Lib.hid hrow
      have HIN := Lib.hid hints
      have HLEN := Lib.hid f3
      have HRR := Lib.hid hR
      have HCE := Lib.hid hcell
      unfold maxLen at h2
      obtain ⟨wq, hwq⟩ : ∃ wq : World, wq = wr := ⟨_, rfl⟩
      subst hwq
      rw [hL]
      clear hrow hints f3 hlen hR hcell hA hL hM hxq HR
      obtain ⟨M, hMl⟩ : ∃ M, L.length = M := ⟨_, rfl⟩
      rw [hMl] at f1 f2 h1 HROW HIN HSk HLEN HRR HCE
      rw [hMl]
      go_wp2
      go_loopg [6, 5] M (fun g s6 s5 wi => ∃ (i : Nat), i + g = M ∧ s6 = .int .i64 i ∧ Hid (AccR wq wi s5 (nxi n L i)))
      case atStart => exact ⟨0, by omega, rfl, Lib.hid (AccR.empty (Ext.refl _))⟩
      case round =>
        obtain ⟨i, hi, rfl, HRi⟩ := hrel
        by_cases hini : i < M
        · obtain ⟨gi1, rfl⟩ : ∃ g', gk = g' + 1 := ⟨gk - 1, by omega⟩
          have hini' : (i : Int) < (M : Nat) := by omega
          have HROWi := Lib.hid (HROW.out i hini)
          have HIi := Lib.hid (HIN.out i hini)
          have hl5 : (row L i).length ≤ 5 := by have := (HLEN.out i hini).1; omega
          have HSi1 := Lib.hid (HSi.out L i)
          have bd := nxi_len n L hn i
          have HSxi := Lib.hid (fun x => HSx.out (row L i) (nxi n L i) x)
          have bx := Lib.hid (nxx_len (row L i) (nxi n L i))
          have HRRi := Lib.hid (HRR.out i hini)
          have HCEi := Lib.hid (HCE.out i hini)
          have HTI := Lib.hid (fun j (hj : j < (row L i).length) => take_ix hj)
          have HTF := Lib.hid (show (row L i).take (row L i).length = row L i from List.take_of_length_le (Nat.le_refl _))
          have HAT := Lib.hid (fun j => (show at2 L i j = ix (row L i) j from rfl))
          obtain ⟨r, hr⟩ : ∃ r, row L i = r := ⟨_, rfl⟩
          obtain ⟨acc, hacc⟩ : ∃ r, nxi n L i = r := ⟨_, rfl⟩
          rw [hr] at HROWi HIi hl5 HSi1 HSxi bx HRRi HCEi HTI HTF HAT
          rw [hacc] at HRi HSi1 bd HSxi bx
          obtain ⟨p, hp⟩ : ∃ p, r.length = p := ⟨_, rfl⟩
          have HP := Lib.hid hp
          rw [hp] at HROWi hl5 HRRi HCEi HTI HTF
          clear hr hacc hp
          go_wp2
          go_loopg [7, 5] n (fun g s7 s5 wx => ∃ (x : Nat), x + g = n ∧ s7 = .int .i64 x ∧ Hid (AccR wq wx s5 (nxx r acc x)))
          case atStart => exact ⟨0, by omega, rfl, HRi⟩
          case round =>
            obtain ⟨x, hx, rfl, HRx⟩ := hrel
            have hxx := HRx.out.x
            by_cases hinx : x < n
            · obtain ⟨gx1, rfl⟩ : ∃ g', gk = g' + 1 := ⟨gk - 1, by omega⟩
              have hinx' : (x : Int) < (n : Nat) := by omega
              have c1 := hxx.cell HROWi.out
              obtain ⟨wp, hwp⟩ : ∃ wp : World, wp = wr := ⟨_, rfl⟩
              subst hwp
              go_wp2
              go_loopg [9, 8] p (fun g s9 s8 wj => ∃ (j : Nat) (t : Bool) (m : Nat), j + g = p ∧ s9 = .int .i64 j ∧ s8 = .bool t ∧ wj = wp.drewN m ∧ Hid (t = decide ((x : Int) ∈ r.take j)))
              case atStart => exact ⟨0, false, 0, by omega, rfl, rfl, rfl, Lib.hid (by simp)⟩
              case round =>
                obtain ⟨j, t, m, hj, rfl, rfl, rfl, HT⟩ := hrel
                have c2 := (hxx.drewN' m).cell HROWi.out
                by_cases hinj : j < p
                · obtain ⟨gj1, rfl⟩ : ∃ g', gk = g' + 1 := ⟨gk - 1, by omega⟩
                  have hinj' : (j : Int) < (p : Nat) := by omega
                  have eR := HRRi.out (by omega)
                  rw [eR] at c1 c2
                  have c3 := (hxx.drewN' m).cell (HCEi.out j hinj)
                  rw [HAT.out] at c3
                  have HTj := Lib.hid (HTI.out j hinj)
                  obtain ⟨X, hX⟩ : ∃ X, ix r j = X := ⟨_, rfl⟩
                  rw [hX] at c3 HTj
                  clear hX
                  cases t with
                  | true =>
                    have HN := Lib.hid (show true = decide ((x : Int) ∈ r.take (j + 1)) by
                      rw [HTj.out]
                      refine (decide_eq_true (List.mem_append.2 (.inl ?_))).symm
                      exact of_decide_eq_true HT.out.symm)
                    clear HTj HT
                    go_wp2
                    go_roundg gj1
                    case measure => omega
                    case rel => exact ⟨j + 1, true, _, by omega, by go_num, rfl, by first | rfl | exact drewN_add _ _ _, HN⟩
                  | false =>
                    have hno : ¬ (x : Int) ∈ r.take j := of_decide_eq_false HT.out.symm
                    by_cases q : X = (x : Int)
                    · have HN := Lib.hid (show true = decide ((x : Int) ∈ r.take (j + 1)) by
                        rw [HTj.out]
                        exact (decide_eq_true (List.mem_append.2 (.inr (by simp [q])))).symm)
                      have q' : (X == (x : Int)) = true := beq_iff_eq.2 q
                      clear HTj HT hno q
                      go_wp2
                      go_roundg gj1
                      case measure => omega
                      case rel => exact ⟨j + 1, true, _, by omega, by go_num, by first | rfl | simp [q'], by first | rfl | exact drewN_add _ _ _, HN⟩
                    · have HN := Lib.hid (show false = decide ((x : Int) ∈ r.take (j + 1)) by
                        rw [HTj.out]
                        refine (decide_eq_false fun h => ?_).symm
                        rcases List.mem_append.1 h with h | h
                        · exact hno h
                        · simp at h; exact q h.symm)
                      have q' : (X == (x : Int)) = false := beq_eq_false_iff_ne.2 q
                      clear HTj HT hno q
                      go_wp2
                      go_roundg gj1
                      case measure => omega
                      case rel => exact ⟨j + 1, false, _, by omega, by go_num, by first | rfl | simp [q'], by first | rfl | exact drewN_add _ _ _, HN⟩
                · have hinj' : ¬ (j : Int) < (p : Nat) := by omega
                  obtain rfl : gk = 0 := by omega
                  obtain rfl : j = p := by omega
                  rw [HTF.out] at HT
                  by_cases hm : (x : Int) ∈ r
                  · obtain rfl : t = true := HT.out.trans (decide_eq_true hm)
                    have HN := Lib.hid (show nxx r acc (x + 1) = nxx r acc x by rw [HSxi.out, if_pos hm])
                    clear hm HT
                    go_wp2
                    go_roundg gx1
                    case measure => omega
                    case rel => exact ⟨x + 1, by omega, by go_num, Lib.hid (by rw [HN.out]; exact HRx.out.on (Ext.drewN _ _))⟩
                  · obtain rfl : t = false := HT.out.trans (decide_eq_false hm)
                    have HN := Lib.hid (show nxx r acc (x + 1) = nxx r acc x ++ [r ++ [(x : Int)]] by rw [HSxi.out, if_neg hm])
                    have bxx := bx.out x
                    clear hm HT
                    obtain ⟨acx, hacx⟩ : ∃ q, nxx r acc x = q := ⟨_, rfl⟩
                    rw [hacx] at HN bxx HRx
                    clear hacx
                    have HRX := Lib.hid (HRx.out.on (Ext.drewN _ m))
                    obtain ⟨wz, hwz⟩ : ∃ wz, wp.drewN m = wz := ⟨_, rfl⟩
                    have hxz : Ext wq wz := by rw [← hwz]; exact hxx.drewN' _
                    rw [hwz] at HRX c2
                    rw [hwz]
                    have c4 := (hxz.alloc' (.cells #[] 3)).cell HROWi.out
                    have HPP := HP.out
                    have HIp := Lib.hid (show ∃ q, Ints wq (R i) (rc i) q ∧ q = r from ⟨r, HIi.out, rfl⟩)
                    clear HRx hwz hxx c1
                    subst HPP
                    go_wp2_with (first
                      | (at_builtin; (fail_if_success (have hq := hA1)); refine wpList_ex rfl _ _ rfl (.slice (some ⟨_, 0, none⟩) 0 0) _ rfl rfl (appI_run (w0 := wz) (ys := []) rfl Try.underlying31 infoI (accNew (Ext.alloc _ _) (heap_alloc_new _ _) (Nat.le_refl _)) (HIi.out.ext (hxz.alloc' _)) (by simp; omega)) ?_; rintro v1 W1 ⟨hA1, hB1, hS1⟩; rw [List.nil_append] at hA1)
                      | (at_builtin; (fail_if_success (have hq := hA2)); refine wpList_ex rfl _ _ rfl v1 (.slice (some ⟨_, 0, none⟩) 1 1) rfl rfl (app_run (w0 := wz) Try.underlying31 infoI rfl (by decide) v1 (r.map (Value.int .i64)) ⟨_, 0, none⟩ 1 1 [.int .i64 x] rfl (one_news (cell_new0 _ _ _) rfl) (map_one [(x : Int)]) (hA1.on (Ext.alloc _ _)) (by simp; omega)) ?_; rintro v2 W2 ⟨hA2', hB2, hS2⟩; have hA2 : Acc wz W2 3 v2 ((r ++ [(x : Int)]).map (Value.int .i64)) := (by rw [List.map_append]; exact hA2'); obtain ⟨Ar, cr, hv2, -⟩ := (Leaf.of_own hA2.2).1.ints; obtain ⟨K, hK⟩ : ∃ K, (r ++ [(x : Int)]).length = K := ⟨_, rfl⟩; rw [hK] at hv2; subst hv2; clear hK hA2')
                      | (at_builtin; refine wpList_ex rfl _ _ rfl _ (.slice (some ⟨_, 0, none⟩) 1 1) rfl rfl (accR_run (u := .slice Ar K cr) rfl Try.underlying23 infoR ⟨_, 0, none⟩ 1 rfl HRX.out hA2 (Ext.alloc _ _) (cell_new0 _ _ _) (by omega)) ?_; rintro v3 W3 hR3))
                    go_roundg gx1
                    case measure => omega
                    case rel => exact ⟨x + 1, by omega, by go_num, Lib.hid (by rw [HN.out]; exact hR3)⟩
            · have hinx' : ¬ (x : Int) < (n : Nat) := by omega
              obtain rfl : gk = 0 := by omega
              obtain rfl : x = n := by omega
              go_wp2
              go_roundg gi1
              case measure => omega
              case rel => exact ⟨i + 1, by omega, by go_num, Lib.hid (by rw [HSi1.out]; exact HRx.out)⟩
        · have hini' : ¬ (i : Int) < (M : Nat) := by omega
          obtain rfl : gk = 0 := by omega
          obtain rfl : i = M := by omega
          go_wp2
          go_roundg gk1
          case measure => omega
          case rel => exact ⟨k + 1, by omega, by go_num, Lib.hid (by rw [HSk.out]; exact HRi.out.low HXW.out)⟩
    · have hin' : ¬ (k : Int) < (n : Nat) := by omega
      obtain rfl : gk = 0 := by omega
      obtain rfl : k = n := by omega
      have HFR := Lib.hid HR.out.fresh
      clear HR
      go_wp2
      go_ret
      exact HFR.out
end Go.Proofs.Ytbkefojepelggaa
