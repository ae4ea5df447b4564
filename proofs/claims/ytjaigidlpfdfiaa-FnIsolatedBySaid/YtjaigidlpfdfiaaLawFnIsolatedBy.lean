/- What is proved: the law FnIsolatedBy returns true for every input, and its argument reads behind the call as before. No condition. -/
import Derived.Test.YtjaigidlpfdfiaaDrSplit
import Derived.Test.YtjaigidlpfdfiaaAlive
import Derived.Test.YtjaigidlpfdfiaaLeg
namespace Go.Proofs.Ytjaigidlpfdfiaa
open Go.RowKit
theorem splitB_parts3 {D : List (List Int)} {l : Int} (h : splitB D l = true) : spB D = true ∧ 2 ≤ D.length ∧ D.length ≤ 6 ∧ 1 ≤ l ∧ l ≤ 31 := by
  obtain ⟨h1, h2, h3, h4, _, h5⟩ := iIsolatedBy_any.splitB_parts' h
  exact ⟨h1, h2, h3, h4, h5⟩
theorem isoI_nn {D : List (List Int)} (hf : farB D = true) (l : Int) : 0 ≤ isoI D l ∧ isoI D l ≤ 240 := by
  obtain ⟨a1, a2, a3⟩ := isoI_least D l
  refine ⟨?_, a1⟩
  rcases a3 with a3 | ⟨a, ha, b, hb, c, hc, e, he, _, hx⟩
  · omega
  · rw [hx]; exact (gap4_bd hf ha hb hc he).1
set_option maxRecDepth 100000 in
set_option maxHeartbeats 4000000 in
theorem FnIsolatedBy_walk (A : Option Addr) (n c : Nat) (w : World) (h : Byt w A n c) :
    Calls Try.prog 6 #[.slice A n c] w fun e w' => e = .returned (.bool true) ∧ Ext w w' := by
  by_cases hz : 1048576 < n
  · have hz' : (1048576 : Int) < (n : Nat) := by omega
    go_enter Try.func6, Try.ntmps6
    go_wp2
    go_ret
    exact ⟨rfl, (by repeat (first | exact Ext.refl _ | assumption | apply Ext.drewN' | apply Ext.alloc' | refine Ext.trans ?_ (by assumption)))⟩
  have hz' : ¬ (1048576 : Int) < (n : Nat) := by omega
  go_enter Try.func6, Try.ntmps6
  go_wp2_with fail
  refine (drawIsolatedBy_any A n c w h).mono ?_
  rintro e w1 ⟨A1, c1, D, l, rfl, hM, hx1⟩
  have HM := Lib.hid hM
  have hx : Ext w w1 := hx1
  clear hx1
  have Hd := Lib.hid (show isoV D l = if splitB D l = true then isoI D l else -1 from rfl)
  go_wp2_with fail
  refine (iIsolated_any A1 c1 D l _ (HM.out.ext (by repeat (first | exact Ext.refl _ | assumption | apply Ext.drewN' | apply Ext.alloc' | refine Ext.trans ?_ (by assumption))))).mono ?_
  rintro e w2 ⟨rfl, hx2⟩
  go_wp2_with fail
  refine (q_ext (sIsolatedBy_any A1 c1 D l _ (HM.out.ext (by repeat (first | exact Ext.refl _ | assumption | apply Ext.drewN' | apply Ext.alloc' | refine Ext.trans ?_ (by assumption)))))).mono ?_
  rintro e w3 ⟨rfl, hx3⟩
  cases hs : splitB D l with
  | false =>
    rw [hs, if_neg (by decide)] at Hd
    rw [Hd.out]
    clear hM
    go_wp2_with fail
    refine (alive_any _).mono ?_
    rintro e w7 ⟨rfl, hx7⟩
    go_wp2
    go_ret
    exact ⟨rfl, (by repeat (first | exact Ext.refl _ | assumption | apply Ext.drewN' | apply Ext.alloc' | refine Ext.trans ?_ (by assumption)))⟩
  | true =>
    rw [hs, if_pos rfl] at Hd
    rw [Hd.out]
    obtain ⟨hsp, n2, n6, l1, l31⟩ := splitB_parts3 hs
    have HAC := Lib.hid (fun (k j : Nat) (hk : k < D.length) (hj : j < D.length) hb => iso_across (l := l) hsp hk hj hb)
    have HLEG := Lib.hid (fun h3 => iso_leg hsp h3)
    have HSP := Lib.hid hsp
    have HTM := Lib.hid (fun k => bitI_tmod l k (by omega))
    obtain ⟨⟨hn1, hn6⟩, hsq, hcells⟩ := farB_parts (spB_far hsp)
    obtain ⟨i0, i1⟩ := isoI_nn (spB_far hsp) l
    have HONE := Lib.hid (show isoV D 1 = isoI D 1 by
      unfold isoV
      rw [if_pos]
      unfold splitB
      rw [hsp]
      simp only [Bool.true_and, decide_eq_true_eq]
      refine ⟨n2, Int.le_refl _, ?_⟩
      have : (2 : Int) ^ 1 ≤ 2 ^ (D.length - 1) := by exact_mod_cast Nat.pow_le_pow_right (by decide) (by omega)
      omega)
    obtain ⟨bk, o, rc, rb, ro, hA, hrow, hlen, hcell, -⟩ := (hM.ext (hx2.trans hx3)).square hsq
    obtain rfl := hA (by omega)
    have HROW := Lib.hid hrow
    have HLEN := Lib.hid hlen
    have HCE := Lib.hid hcell
    have HBD := Lib.hid hcells
    obtain ⟨X, hX⟩ : ∃ X : Int, isoI D l = X := ⟨_, rfl⟩
    rw [hX] at HAC i0 i1
    rw [hX]
    have hxa : Ext w w3 := (by repeat (first | exact Ext.refl _ | assumption | apply Ext.drewN' | apply Ext.alloc' | refine Ext.trans ?_ (by assumption)))
    have HM3 := Lib.hid (HM.out.ext (hx2.trans hx3))
    clear hM hrow hlen hcell hcells hsq hA hs hsp Hd hX hx hx2 hx3
    go_wp2
    go_loopg [6] (D.length) (fun g s6 wr => ∃ (k : Nat), k + g = D.length ∧ s6 = .int .i64 k ∧ Ext w3 wr ∧ Hid (True))
    case atStart => exact ⟨0, by omega, rfl, by repeat (first | exact Ext.refl _ | assumption | apply Ext.drewN' | apply Ext.alloc' | refine Ext.trans ?_ (by assumption)), Lib.hid (trivial)⟩
    case round =>
      obtain ⟨k, hk, rfl, hxk, Hk⟩ := hrel
      by_cases hink : k < D.length
      · obtain ⟨gk, rfl⟩ : ∃ g', gk = g' + 1 := ⟨gk - 1, by omega⟩
        have hink' : (k : Int) < (D.length : Nat) := by omega
        go_wp2
        go_loopg [7] (D.length) (fun g s7 wr => ∃ (j : Nat), j + g = D.length ∧ s7 = .int .i64 j ∧ Ext w3 wr ∧ Hid (True))
        case atStart => exact ⟨0, by omega, rfl, by repeat (first | exact Ext.refl _ | assumption | apply Ext.drewN' | apply Ext.alloc' | refine Ext.trans ?_ (by assumption)), Lib.hid (trivial)⟩
        case round =>
          obtain ⟨j, hj, rfl, hxj, Hj⟩ := hrel
          by_cases hinj : j < D.length
          · obtain ⟨gj, rfl⟩ : ∃ g', gk = g' + 1 := ⟨gk - 1, by omega⟩
            have hinj' : (j : Int) < (D.length : Nat) := by omega
            have hxr : Ext w3 wr := hxj
            have r1 := hxr.cell (HROW.out k hink)
            have c1 := hxr.cell (HCE.out k hink j hinj)
            have hl1 := (HLEN.out k hink).1
            obtain ⟨p1, q1, -, -⟩ := HBD.out k hink j hinj
            rcases bitI_01 l k with b1 | b1 <;> rcases bitI_01 l j with b2 | b2
            · have B1 : (l / 2 ^ k).tmod 2 = 0 := (HTM.out k).trans b1
              have B2 : (l / 2 ^ j).tmod 2 = 0 := (HTM.out j).trans b2
              clear b1 b2
              go_wp2
              go_quiet (fail)
              go_wp2
              go_roundg gj
              case measure => omega
              case rel => exact ⟨j + 1, by omega, by go_num, by repeat (first | exact Ext.refl _ | assumption | apply Ext.drewN' | apply Ext.alloc' | refine Ext.trans ?_ (by assumption)), Lib.hid (by trivial)⟩
            · have B1 : (l / 2 ^ k).tmod 2 = 0 := (HTM.out k).trans b1
              have B2 : (l / 2 ^ j).tmod 2 = 1 := (HTM.out j).trans b2
              have hle := HAC.out k j hink hinj (by rw [b1, b2]; decide)
              have hgt : decide (2 * at2 D k j < X) = false := decide_eq_false (by omega)
              clear b1 b2
              go_wp2
              go_quiet (fail)
              go_wp2
              go_roundg gj
              case measure => omega
              case rel => exact ⟨j + 1, by omega, by go_num, by repeat (first | exact Ext.refl _ | assumption | apply Ext.drewN' | apply Ext.alloc' | refine Ext.trans ?_ (by assumption)), Lib.hid (by trivial)⟩
            · have B1 : (l / 2 ^ k).tmod 2 = 1 := (HTM.out k).trans b1
              have B2 : (l / 2 ^ j).tmod 2 = 0 := (HTM.out j).trans b2
              have hle := HAC.out k j hink hinj (by rw [b1, b2]; decide)
              have hgt : decide (2 * at2 D k j < X) = false := decide_eq_false (by omega)
              clear b1 b2
              go_wp2
              go_quiet (fail)
              go_wp2
              go_roundg gj
              case measure => omega
              case rel => exact ⟨j + 1, by omega, by go_num, by repeat (first | exact Ext.refl _ | assumption | apply Ext.drewN' | apply Ext.alloc' | refine Ext.trans ?_ (by assumption)), Lib.hid (by trivial)⟩
            · have B1 : (l / 2 ^ k).tmod 2 = 1 := (HTM.out k).trans b1
              have B2 : (l / 2 ^ j).tmod 2 = 1 := (HTM.out j).trans b2
              clear b1 b2
              go_wp2
              go_quiet (fail)
              go_wp2
              go_roundg gj
              case measure => omega
              case rel => exact ⟨j + 1, by omega, by go_num, by repeat (first | exact Ext.refl _ | assumption | apply Ext.drewN' | apply Ext.alloc' | refine Ext.trans ?_ (by assumption)), Lib.hid (by trivial)⟩
          · have hinj' : ¬ (j : Int) < (D.length : Nat) := by omega
            obtain rfl : gk = 0 := by omega
            go_wp2
            go_roundg gk
            case measure => omega
            case rel => exact ⟨k + 1, by omega, by go_num, by repeat (first | exact Ext.refl _ | assumption | apply Ext.drewN' | apply Ext.alloc' | refine Ext.trans ?_ (by assumption)), Lib.hid (by trivial)⟩
      · have hink' : ¬ (k : Int) < (D.length : Nat) := by omega
        obtain rfl : gk = 0 := by omega
        by_cases h3 : 3 ≤ D.length
        · have h3' : ¬ (D.length : Int) < 3 := by omega
          have HL := Lib.hid (HLEG.out h3)
          have HC := Lib.hid (fun W (q : Mat W (some ⟨bk, o, none⟩) c1 D) => iLegOf_any (some ⟨bk, o, none⟩) c1 D 0 W q HSP.out (by omega) h3)
          clear HROW HLEN HCE HBD HAC HTM h3 HLEG
          go_wp2_with fail
          refine (iIsolated_any (some ⟨bk, o, none⟩) c1 D 1 _ (HM3.out.ext (by repeat (first | exact Ext.refl _ | assumption | apply Ext.drewN' | apply Ext.alloc' | refine Ext.trans ?_ (by assumption))))).mono ?_
          rintro e w5 ⟨rfl, hx5⟩
          rw [HONE.out, HL.out]
          go_wp2_with fail
          refine (HC.out _ (HM3.out.ext (by repeat (first | exact Ext.refl _ | assumption | apply Ext.drewN' | apply Ext.alloc' | refine Ext.trans ?_ (by assumption))))).mono ?_
          rintro e w6 ⟨rfl, m6, rfl⟩
          go_wp2
          go_ret
          exact ⟨rfl, (by repeat (first | exact Ext.refl _ | assumption | apply Ext.drewN' | apply Ext.alloc' | refine Ext.trans ?_ (by assumption)))⟩
        · have h3' : (D.length : Int) < 3 := by omega
          clear HROW HLEN HCE HBD HAC HTM h3 HLEG
          go_wp2
          go_ret
          exact ⟨rfl, (by repeat (first | exact Ext.refl _ | assumption | apply Ext.drewN' | apply Ext.alloc' | refine Ext.trans ?_ (by assumption)))⟩
section
open Go.ChangeShapes Go.WideShapes Go.ChangeAt Go.Deep
set_option maxRecDepth 100000 in
theorem FnIsolatedBy_contract (H : Type) (enc : TypeId × Value → H) (W : World) (base : Nat) (args : Array Value) (ds gs : List (DataW H)) (before : List MemPlace)
    (hval : ∀ (j : Nat) t v, Try.f6.params[j]? = some t → args[j]? = some v → Value.okWide Try.prog W .any base t v)
    (hW : DataW.Whole enc Try.prog Try.f6.params.toList Rows.fnIsolatedBySpec.vars false W args.toList ds gs before) :
    Calls Try.prog 6 args W fun e W' => ∃ v, e = .returned v ∧ Rows.fnIsolatedBySpec.post enc Try.prog Try.f6 false true false false W args v W' := by
  have hW' := hW
  obtain ⟨p, q, hA0, hV, rfl, hfz, hnd⟩ := hW
  have hA : DataW.TrodAll enc Try.prog W 0 (fun _ => true) true Try.f6.params.toList args.toList ds p := hA0
  rw [Try.params6] at hA hval
  obtain ⟨v0, vs0, d0, ds0, p0, q0, hargs0, rfl, rfl, h0, r0⟩ := trodAll_cons hA
  obtain ⟨hargsn, rfl, rfl⟩ := trodAll_nil r0
  obtain rfl : args = #[v0] := by cases args; simp_all
  obtain ⟨rfl, rfl⟩ := trodVars_none hV
  clear hA0
  obtain ⟨A0, code, c0, rfl, M0⟩ := read_bytes (hval 0 22 v0 rfl rfl) h0
  refine (FnIsolatedBy_walk A0 code c0 W M0).mono fun e W' ⟨he, hx⟩ => ⟨_, he, post_law laidOut (by rw [Try.params6]; decide +kernel) rfl rfl Try.underlying4 hW' rfl hx⟩
set_option maxRecDepth 100000 in
theorem FnIsolatedBy_lifted (os : Os) (started : os.Started) (H : Type) (enc : TypeId × Value → H) :
    ReturnsInHanded {} Try.checked os 6 .any (Rows.fnIsolatedBySpec.pre6 enc Try.prog Try.f6 Rows.fnIsolatedByRow.domain false) (Rows.fnIsolatedBySpec.post enc Try.prog Try.f6 false true false false) := by
  refine returnsInHanded_of_change (C := Try.checked) own started (by kernel_rfl) Try.func6
    (ChangeSpec.witness6 (enc := enc) (C := Try.checked) false ⟨#[], #[.slice none 0 0], []⟩ 8 (by kernel_rfl) (by kernel_rfl) (by kernel_rfl) (by kernel_rfl) rfl) ?_
  intro W base args ds gs before hval hW _ _
  exact FnIsolatedBy_contract H enc W base args ds gs before hval hW
theorem FnIsolatedBy_holds : Rows.FnIsolatedBySaid :=
  OpenClaim.holds_of_wide 6 Try.f6 rfl rfl rfl rfl rfl rfl rfl ⟨rfl, rfl, rfl, rfl, rfl⟩ rfl rfl rfl rfl rfl (by kernel_rfl) Try.func6 (by kernel_rfl)
    (of_decide_eq_true (by kernel_rfl)) (by unfold Func.isWrapper; first | (rw [if_pos (by decide +kernel)]; kernel_rfl) | (rw [if_neg (by decide +kernel)]; exact ⟨rfl, rfl⟩))
    (fun os started H enc _ => FnIsolatedBy_lifted os started H enc)
end
end Go.Proofs.Ytjaigidlpfdfiaa
