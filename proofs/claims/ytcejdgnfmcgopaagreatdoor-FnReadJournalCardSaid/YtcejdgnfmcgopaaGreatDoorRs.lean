/- What is proved: spec.ReadDeed. Conditions: those of each contract. -/
import Derived.Test.YtcejdgnfmcgopaaGreatDoorDt
import Derived.Test.YtcejdgnfmcgopaaGreatDoorRc
import Derived.Test.YtcejdgnfmcgopaaGreatDoorPa
import Derived.Deep.DeepCutAuto
import Derived.Deep.CutBlock
namespace Go.Proofs.YtcejdgnfmcgopaaGreatDoor
open Go.RowKit
/-- a row of texts to be read -/
def Txts (w : World) (A : Option Addr) (c : Nat) (ps : List (List UInt8)) : Prop :=
  ps.length ≤ c ∧ c ≤ maxLen ∧ ∃ b o, (0 < ps.length → A = some ⟨b, o, none⟩ ∧ ∃ cs, w.heap[b]? = some (.cells cs 9 (0, 0))) ∧ ∀ i, i < ps.length → w.cell? ⟨b, o + i, none⟩ = some (tx (ps.getD i []))
theorem Txts.ext {w w' : World} {A : Option Addr} {c : Nat} {ps : List (List UInt8)} (h : Txts w A c ps) (k : Ext w w') : Txts w' A c ps := by
  obtain ⟨h1, h2, b, o, h3, h4⟩ := h
  refine ⟨h1, h2, b, o, fun q => ?_, fun i hi => k.cell (h4 i hi)⟩
  obtain ⟨e, cs, hb⟩ := h3 q
  exact ⟨e, cs, (k.block (heap_lt hb)).trans hb⟩
theorem Txts.beside {w w' : World} {A : Option Addr} {c : Nat} {ps : List (List UInt8)} {v : Value} {base : Nat} {E : TypeId} {n : Nat} {xs : List Value} (h : Txts w A c ps) (k : Beside v w w') (ho : w.ownsRow base E 1 v n xs) (hE : E ≠ 9) : Txts w' A c ps := by
  obtain ⟨h1, h2, b, o, h3, h4⟩ := h
  by_cases h0 : 0 < ps.length
  · obtain ⟨e, cs, hb⟩ := h3 h0
    have hb' := k.block ho hE hb
    exact ⟨h1, h2, b, o, fun q => ⟨e, cs, hb'⟩, fun i hi => by
      have := h4 i hi
      rw [cell_cells hb] at this
      rw [cell_cells hb']
      exact this⟩
  · exact ⟨h1, h2, b, o, fun q => absurd q h0, fun i hi => absurd hi (by omega)⟩
theorem Acc.texts {w w' : World} {v : Value} {ps : List (List UInt8)} (h : Acc w w' 9 v (ps.map tx)) : ∃ A c, v = .slice A ps.length c ∧ Txts w' A c ps := by
  obtain ⟨-, -, h2⟩ := h
  rcases h2 with ⟨rfl, h0⟩ | ⟨g, cap, cur, rfl, hb, hg, hcap, hm, hs, ht⟩
  · rw [List.length_map] at h0
    exact ⟨none, 0, by rw [h0], by omega, Nat.zero_le _, 0, 0, fun q => absurd q (by omega), fun i hi => absurd hi (by omega)⟩
  · rw [List.length_map] at hcap ht ⊢
    refine ⟨_, cap, rfl, hcap, hm, g, 0, fun _ => ⟨rfl, cur, hg⟩, fun i hi => ?_⟩
    rw [Nat.zero_add, cell_cells hg]
    have e : (cur.toList.take (ps.length * 1))[i]? = (ps.map tx)[i]? := by rw [ht]
    rw [List.getElem?_take, if_pos (by omega)] at e
    rw [← Array.getElem?_toList, e]
    simp [hi]
theorem l1Cut_z (L : List UInt8) (sep : UInt8) (z : Int) (hz : z = (sep.toNat : Int)) (w : World) (hl : L.length ≤ 1048576) :
    Calls Tryz.prog 62 #[.string ⟨L.toArray⟩, .int .u8 z] w fun e w' => ∃ A c, e = .returned (.slice A (pieces sep L).length c) ∧ Txts w' A c (pieces sep L) ∧ (pieces sep L).length ≤ 1048577 ∧ Ext w w' := by
  subst hz
  refine (l1Cut_any L sep _ rfl w hl).mono ?_
  rintro e w1 ⟨v, rfl, h1, h2⟩
  obtain ⟨A, c, rfl, h3⟩ := h1.texts
  exact ⟨A, c, rfl, h3, h2, h1.x⟩
theorem piece_len (sep : UInt8) (L : List UInt8) : ∀ p ∈ pieces sep L, p.length ≤ L.length := by
  induction L with
  | nil => intro p hp; simp [pieces] at hp; subst hp; simp
  | cons c r ih =>
    intro p hp
    unfold pieces at hp
    split at hp
    · rcases List.mem_cons.1 hp with e | e
      · subst e; simp
      · have := ih p e; simp only [List.length_cons]; omega
    · cases hq : pieces sep r with
      | nil => exact absurd hq (pieces_ne _ _)
      | cons a l =>
        rw [hq] at hp ih
        rcases List.mem_cons.1 hp with e | e
        · have := ih a (List.mem_cons_self)
          rw [e, List.length_append]
          simp only [List.length_cons, List.length_nil]
          omega
        · have := ih p (List.mem_cons_of_mem _ e)
          simp only [List.length_cons]
          omega
theorem store2 {W : World} {g : Nat} {a b : Value} {T : TypeId} (hb : W.heap[g]? = some (.cells #[a, b] T (0, 0))) (x y : Value) :
    (W.cell? ⟨g, 0, none⟩ = some a ∧ W.frozen? ⟨g, 0, none⟩ = false) ∧ W.cell? ⟨g, 1, none⟩ = some b ∧ ((W.setCell ⟨g, 0, none⟩ x).cell? ⟨g, 1, none⟩ = some b ∧ (W.setCell ⟨g, 0, none⟩ x).frozen? ⟨g, 1, none⟩ = false) ∧ W.frozen? ⟨g, 1, none⟩ = false ∧
      ((W.setCell ⟨g, 0, none⟩ x).setCell ⟨g, 1, none⟩ y).cell? ⟨g, 0, none⟩ = some x ∧ ((W.setCell ⟨g, 0, none⟩ x).setCell ⟨g, 1, none⟩ y).cell? ⟨g, 1, none⟩ = some y := by
  obtain ⟨c0, c1⟩ := two_cells hb
  have s0 := set_0 (u := x) hb
  have s1 := set_1 (u := y) s0
  obtain ⟨d0, d1⟩ := two_cells s0
  obtain ⟨e0, e1⟩ := two_cells s1
  exact ⟨⟨c0, frozen_cells hb 0⟩, c1, ⟨d1, frozen_cells s0 1⟩, frozen_cells hb 1, e0, e1⟩
/-- the numbers of a text of two words -/
def rlist (L : List UInt8) : List Int := if (pieces 32 L).length = 2 then (pieces 44 ((pieces 32 L).getD 1 [])).map dgt else []
def rfirst (L : List UInt8) (xs : List Int) : Nat → Nat → Option (Int × List Int)
  | 0, _ => none
  | g + 1, k => if L ≠ [] ∧ dtx k xs = L then some ((k : Int), xs) else rfirst L xs g (k + 1)
/-- the deed of a text -/
def rdS (L : List UInt8) : Option (Int × List Int) := rfirst L (rlist L) 5 0
def rk : Option (Int × List Int) → Int
  | none => 0
  | some p => p.1
def rx : Option (Int × List Int) → List Int
  | none => []
  | some p => p.2
/-- what a deed that has been read leaves -/
def RdE (w : World) (r : Option (Int × List Int)) (e : Ending) (w' : World) : Prop :=
  ∃ v, e = .returned (.tuple #[.agg #[.int .i64 (rk r), v], .bool r.isSome]) ∧ Leaf w' v (rx r) ∧ (∀ g ∈ lb v, w.heap.size ≤ g) ∧ Ext w w'
set_option maxRecDepth 100000 in
set_option maxHeartbeats 4000000 in
theorem sReadDeed_any (L : List UInt8) (w : World) (hl : L.length ≤ 1048576) :
    Calls Tryz.prog 52 #[.string ⟨L.toArray⟩] w (RdE w (rdS L)) := by
  obtain ⟨w0, hw0⟩ : ∃ W, w.alloc (.cells #[.int .i64 0, .slice none 0 0] 56) = W := ⟨_, rfl⟩
  have hx0 : Ext w w0 := by rw [← hw0]; exact Ext.alloc _ _
  have hb := heap_alloc_new w (.cells #[.int .i64 0, .slice none 0 0] 56)
  rw [hw0] at hb
  have HB := Lib.hid (fun W (q : Ext w0 W) => (q.block (heap_lt hb)).trans hb)
  have hs0 : w0.heap.size = w.heap.size + 1 := by rw [← hw0]; simp
  have HPL := Lib.hid (piece_len 32 L)
  go_enter Tryz.func52, Tryz.ntmps52
  go_wp2_with fail
  clear hw0 hb
  refine (l1Cut_z L 32 32 rfl w0 hl).mono ?_
  rintro e w1 ⟨A1, c1, rfl, hT1, hN1, hx1⟩
  have HT1 := Lib.hid hT1
  clear hT1
  obtain ⟨ws, hws⟩ : ∃ p, pieces 32 L = p := ⟨_, rfl⟩
  have HWS := Lib.hid hws
  rw [hws] at HT1 hN1 HPL ⊢
  clear hws
  have HX1 := Lib.hid hx1
  clear hx1
  go_upto_if 15 with fail
  go_cut [5] (fun s5 wx => ∃ A c, s5 = .slice A (rlist L).length c ∧ Hid (Leaf wx (.slice A (rlist L).length c) (rlist L) ∧ (∀ g ∈ lb (.slice A (rlist L).length c), w0.heap.size ≤ g) ∧ (rlist L).length ≤ 1048577) ∧ Hid (Ext w0 wx))
  case first =>
    by_cases h2 : ws.length = 2
    · have h2' : ((ws.length : Int) == 2) = true := beq_iff_eq.2 (by omega)
      have h2'' : (1 : Int) < (ws.length : Nat) := by omega
      obtain ⟨P, hP⟩ : ∃ P, ws.getD 1 [] = P := ⟨_, rfl⟩
      have hPL : P.length ≤ 1048576 := by
        have : P ∈ ws := by rw [← hP]; simp [List.getD, show 1 < ws.length by omega]
        have := HPL.out P this
        omega
      have HRL : Hid (rlist L = (pieces 44 P).map dgt) := Lib.hid (by unfold rlist; rw [HWS.out, if_pos h2, hP])
      obtain ⟨t1, t2, b1, o1, t3, t4⟩ := HT1.out.ext (Ext.alloc w1 (.cells #[] 3))
      have t5 := t4 1 (by omega)
      rw [hP] at t5
      obtain ⟨rfl, -⟩ := t3 (by omega)
      have HPP := Lib.hid (piece_len 44 P)
      clear t3 t4 hP h2
      unfold maxLen at t2
      unfold tx at t5
      go_wp2_with fail
      refine (l1Cut_z P 44 44 rfl _ hPL).mono ?_
      rintro e w2 ⟨A2, c2, rfl, hT2, hN2, hx2⟩
      have HAC := Lib.hid ((Acc.empty (w0 := w1) (w := w1) 3 (Ext.refl _)).on hx2)
      have HT2 := Lib.hid hT2
      obtain ⟨ps, hps⟩ : ∃ p, pieces 44 P = p := ⟨_, rfl⟩
      rw [hps] at HT2 hN2 HRL HPP ⊢
      clear hT2 hps t5 hx2
      obtain ⟨u1, u2, -⟩ := HT2.out
      unfold maxLen at u2
      go_wp2_with fail
      go_loopg [5, 7] ps.length (fun g s5 s7 wr => ∃ (i : Nat) (v : Value), i + g = ps.length ∧ s7 = .int .i64 i ∧ v = s5 ∧ Hid (Acc w1 wr 3 v (((ps.take i).map dgt).map (Value.int .i64)) ∧ Txts wr A2 c2 ps))
      case atStart => exact ⟨0, _, by omega, rfl, rfl, Lib.hid ⟨HAC.out, HT2.out⟩⟩
      case round =>
        obtain ⟨i, v, hi, rfl, rfl, HW⟩ := hrel
        by_cases hin : i < ps.length
        · obtain ⟨g1, rfl⟩ : ∃ g', gk = g' + 1 := ⟨gk - 1, by omega⟩
          have hin' : (i : Int) < (ps.length : Nat) := by omega
          obtain ⟨-, -, b2, o2, t3, t4⟩ := HW.out.2
          obtain ⟨rfl, -⟩ := t3 (by omega)
          have t5 := t4 i hin
          obtain ⟨Q, hQ⟩ : ∃ Q, ps.getD i [] = Q := ⟨_, rfl⟩
          have hmem : Q ∈ ps := by rw [← hQ]; simp [List.getD, hin]
          have hQL := HPP.out Q hmem
          have hst : ((ps.take (i + 1)).map dgt).map (Value.int .i64) = ((ps.take i).map dgt).map (Value.int .i64) ++ [.int .i64 (dgt Q)] := by
            rw [List.take_succ_eq_append_getElem hin, List.map_append, List.map_append]
            congr 1
            rw [← hQ]
            simp [List.getD, hin]
          have HST := Lib.hid hst
          rw [hQ] at t5
          have HD := Lib.hid (l1Digits_any Q wr (by omega))
          obtain ⟨d, hd⟩ : ∃ d, dgt Q = d := ⟨_, rfl⟩
          rw [hd] at HD HST
          unfold tx at t5
          clear t3 t4 hQ hmem hst hd
          go_wp2_with fail
          refine HD.out.mono ?_
          rintro e w5 ⟨rfl, hx5⟩
          have HPU := Lib.hid (app_run (P := Tryz.prog) (w0 := w1) (T := 54) (E := 3) (ty := 54) Tryz.underlying54 infoI rfl (by decide) v (((ps.take i).map dgt).map (Value.int .i64)) ⟨w5.heap.size, 0, none⟩ 1 1 [.int .i64 d] rfl (one_news (cell_new0 w5 _ _) rfl) (map_one [d]) (HW.out.1.on (hx5.trans (Ext.alloc w5 (.cells #[.int .i64 d] 3)))) (by simp; omega))
          have HX5 := Lib.hid (And.intro (HW.out.2.ext (hx5.trans (Ext.alloc w5 (.cells #[.int .i64 d] 3)))) (HW.out.1.on (hx5.trans (Ext.alloc w5 (.cells #[.int .i64 d] 3)))).2)
          clear hx5
          go_wp2_with (at_builtin; go_loud (refine wpList_ex rfl _ _ rfl _ (.slice (some ⟨_, 0, none⟩) 1 1) rfl rfl HPU.out ?_; rintro v6 w6 hS6))
          go_roundg g1
          case measure => omega
          case rel => exact ⟨i + 1, _, by omega, by go_num, rfl, Lib.hid ⟨by rw [HST.out]; exact hS6.1, HX5.out.1.beside hS6.2.1 HX5.out.2 (by decide)⟩⟩
        · have hin' : ¬ (i : Int) < (ps.length : Nat) := by omega
          obtain rfl : i = ps.length := by omega
          have ha := HW.out.1
          rw [List.take_length] at ha
          obtain ⟨hLf, hLb⟩ := Leaf.of_own ha.2
          obtain ⟨Ar, cr, hvr, -⟩ := hLf.ints
          subst hvr
          have HR := Lib.hid (And.intro hLf hLb)
          have hlen : (List.map dgt ps).length = ps.length := by simp
          have HLN := Lib.hid hlen
          have HXr := Lib.hid (show Ext w0 wr from HX1.out.trans ha.1)
          clear ha hLf hLb HW hlen
          go_wp2_with fail
          go_meet
          case rel =>
            rw [HRL.out]
            refine ⟨Ar, cr, by rw [HLN.out], Lib.hid ⟨?_, ?_, by rw [HLN.out]; omega⟩, HXr⟩
            · exact HR.out.1
            · exact fun g hg => Nat.le_trans HX1.out.size (HR.out.2 g hg)
    · have h2' : ((ws.length : Int) == 2) = false := beq_eq_false_iff_ne.2 (by omega)
      have HRL : Hid (rlist L = []) := Lib.hid (by unfold rlist; rw [HWS.out, if_neg h2])
      clear h2
      go_wp2_with fail
      go_meet
      case rel =>
        rw [HRL.out]
        exact ⟨_, _, rfl, Lib.hid ⟨⟨_, _, rfl, Nat.le_refl _, Nat.zero_le _, fun q => absurd q (by simp)⟩, fun g hg => by simp [lb] at hg, by simp⟩, Lib.hid (HX1.out.trans (Ext.alloc _ _))⟩
  case rest =>
    obtain ⟨A3, c3, rfl, HI3, HX3⟩ := hcut
    obtain ⟨xs, hxs⟩ : ∃ p, rlist L = p := ⟨_, rfl⟩
    rw [hxs] at HI3 ⊢
    have HRD : Hid (rdS L = rfirst L xs 5 0) := Lib.hid (by unfold rdS; rw [hxs])
    clear hxs
    have HIN : Hid (Ints wc A3 c3 xs) := Lib.hid (by
      obtain ⟨A', c', e, h⟩ := HI3.out.1.ints
      injection e with e1 _ e2
      subst e1 e2
      exact h)
    have HSD := Lib.hid (fun W (q : Ext wc W) (k : Nat) => sDeedText_any k A3 c3 xs W (HIN.out.ext q) (by have := HI3.out.2.2; omega))
    have HSZ := Lib.hid (show w0.heap.size = w.heap.size + 1 from hs0)
    have hxl := HI3.out.2.2
    go_wp2_with fail
    go_loopg [8] 5 (fun g s8 wr => ∃ (k : Nat), k + g = 5 ∧ s8 = .int .i64 k ∧ Hid (Ext wc wr ∧ rfirst L xs g k = rdS L))
    case atStart => exact ⟨0, by omega, rfl, Lib.hid ⟨Ext.refl _, HRD.out.symm⟩⟩
    case round =>
      obtain ⟨k, hk, rfl, HW⟩ := hrel
      by_cases hin : k < 5
      · obtain ⟨g1, rfl⟩ : ∃ g', gk = g' + 1 := ⟨gk - 1, by omega⟩
        have hin' : (k : Int) ≤ 4 := by omega
        have HST : Hid ((if L ≠ [] ∧ dtx k xs = L then some ((k : Int), xs) else rfirst L xs g1 (k + 1)) = rdS L) := Lib.hid HW.out.2
        have HWX := Lib.hid HW.out.1
        clear HW
        by_cases hL : L = []
        · have hL' : L.isEmpty = true := by rw [hL]; rfl
          have HST2 : Hid (rfirst L xs g1 (k + 1) = rdS L) := Lib.hid (by rw [← HST.out, if_neg (fun q => q.1 hL)])
          clear hL HST
          go_wp2_with fail
          go_roundg g1
          case measure => omega
          case rel => exact ⟨k + 1, by omega, by go_num, Lib.hid ⟨HWX.out.trans (Ext.alloc _ _), HST2.out⟩⟩
        · have hL' : L.isEmpty = false := by
            cases L with
            | nil => exact absurd rfl hL
            | cons a l => rfl
          obtain ⟨T, hT⟩ : ∃ T, dtx k xs = T := ⟨_, rfl⟩
          have HS := Lib.hid (HSD.out (wr.alloc (.cells #[.int .i64 k, .slice A3 xs.length c3] 56)) (HWX.out.trans (Ext.alloc _ _)) k)
          rw [hT] at HST HS
          have hb0 := heap_alloc_new wr (.cells #[.int .i64 k, .slice A3 xs.length c3] 56)
          have HB0 := Lib.hid (fun W (q : Ext (wr.alloc (.cells #[.int .i64 k, .slice A3 xs.length c3] 56)) W) => two_cells ((q.block (heap_lt hb0)).trans hb0))
          obtain ⟨z0, z1⟩ := two_cells hb0
          clear hT hb0
          unfold tx at HS
          by_cases hTL : T = L
          · have HE : Hid (rdS L = some ((k : Int), xs)) := Lib.hid (by rw [← HST.out, if_pos ⟨hL, hTL⟩])
            subst hTL
            go_wp2_with fail
            refine HS.out.mono ?_
            rintro e w5 ⟨rfl, hx5⟩
            clear z0 z1
            obtain ⟨z0, z1⟩ := HB0.out w5 hx5
            have HX5 := Lib.hid (HWX.out.trans ((Ext.alloc _ _).trans hx5))
            have hb5 := HB.out w5 (HX3.out.trans HX5.out)
            obtain ⟨⟨f1, f2⟩, f1', ⟨f3, f4⟩, f4', f5, f6⟩ := store2 hb5 (.int .i64 k) (.slice A3 xs.length c3)
            have hLF := (HI3.out.1.keep (fun g hg => HX5.out.block (HI3.out.1.lt hg))).keep (w' := (w5.setCell ⟨w.heap.size, 0, none⟩ (.int .i64 k)).setCell ⟨w.heap.size, 1, none⟩ (.slice A3 xs.length c3)) (fun g hg => by
              have h1 := HI3.out.2.1 g hg
              have h2 := HSZ.out
              exact (Below.heap_setCell _ _ _ _ (by show g ≠ w.heap.size; omega)).trans (Below.heap_setCell _ _ _ _ (by show g ≠ w.heap.size; omega)))
            have HLF := Lib.hid hLF
            have HXE := Lib.hid (show Ext w ((w5.setCell ⟨w.heap.size, 0, none⟩ (.int .i64 k)).setCell ⟨w.heap.size, 1, none⟩ (.slice A3 xs.length c3)) from ((hx0.trans (HX3.out.trans HX5.out)).setCell' (p := ⟨w.heap.size, 0, none⟩) (Nat.le_refl _) _).setCell' (p := ⟨w.heap.size, 1, none⟩) (Nat.le_refl _) _)
            clear hb5 hLF hx5
            go_wp2_with fail
            refine bodyPost_ret (v := .tuple #[.agg #[.int .i64 k, .slice A3 xs.length c3], .bool true]) (by simp [results, Tryz.results52, go_sem, f5, f6]) rfl ?_
            show RdE w (rdS _) _ _
            rw [HE.out]
            exact ⟨.slice A3 xs.length c3, rfl, HLF.out, fun g hg => by have := HI3.out.2.1 g hg; have := HSZ.out; omega, HXE.out⟩
          · have HST2 : Hid (rfirst L xs g1 (k + 1) = rdS L) := Lib.hid (by rw [← HST.out, if_neg (fun q => hTL q.2)])
            have hTL' : (T == L) = false := beq_eq_false_iff_ne.2 hTL
            clear HST
            go_wp2_with fail
            refine HS.out.mono ?_
            rintro e w5 ⟨rfl, hx5⟩
            clear z0 z1
            go_wp2_with fail
            go_roundg g1
            case measure => omega
            case rel => exact ⟨k + 1, by omega, by go_num, Lib.hid ⟨HWX.out.trans ((Ext.alloc _ _).trans hx5), HST2.out⟩⟩
      · have hin' : ¬ (k : Int) ≤ 4 := by omega
        obtain rfl : gk = 0 := by omega
        have HE : Hid (rdS L = none) := Lib.hid HW.out.2.symm
        have HX5 := Lib.hid HW.out.1
        have hb5 := HB.out wr (HX3.out.trans HX5.out)
        obtain ⟨⟨f1, f2⟩, f1', ⟨f3, f4⟩, f4', f5, f6⟩ := store2 hb5 (.int .i64 0) (.slice none 0 0)
        have HXE := Lib.hid (show Ext w ((wr.setCell ⟨w.heap.size, 0, none⟩ (.int .i64 0)).setCell ⟨w.heap.size, 1, none⟩ (.slice none 0 0)) from ((hx0.trans (HX3.out.trans HX5.out)).setCell' (p := ⟨w.heap.size, 0, none⟩) (Nat.le_refl _) _).setCell' (p := ⟨w.heap.size, 1, none⟩) (Nat.le_refl _) _)
        clear hb5 HW
        go_wp2_with fail
        refine bodyPost_ret (v := .tuple #[.agg #[.int .i64 0, .slice none 0 0], .bool false]) (by simp [results, Tryz.results52, go_sem, f5, f6]) rfl ?_
        show RdE w (rdS L) _ _
        rw [HE.out]
        exact ⟨.slice none 0 0, rfl, ⟨_, _, rfl, Nat.le_refl _, Nat.zero_le _, fun q => absurd q (by simp [rx])⟩, fun g hg => by simp [lb] at hg, HXE.out⟩
end Go.Proofs.YtcejdgnfmcgopaaGreatDoor
