/- What is proved: l20Fours draws rows and four numbers; DrawMiddlesOf returns them to be read. Conditions: those of each contract. -/
import Derived.Test.YtpfbnaachibbfabDrTree
import Derived.Test.YtpfbnaachibbfabOpen
namespace Go.Proofs.Ytpfbnaachibbfab
open Go.RowKit
theorem results_tmp4 {fn : Func} {t u v x : Tmp} (h : fn.results = #[.tmp t, .tmp u, .tmp v, .tmp x]) (tmps : Array Value) (P : Program) (w : World) :
    (results fn tmps).run P w = .ok (.tuple #[tmps.getD t undef, tmps.getD u undef, tmps.getD v undef, tmps.getD x undef]) w := by
  simp [results, h]
theorem results_tmp5 {fn : Func} {t u v x y : Tmp} (h : fn.results = #[.tmp t, .tmp u, .tmp v, .tmp x, .tmp y]) (tmps : Array Value) (P : Program) (w : World) :
    (results fn tmps).run P w = .ok (.tuple #[tmps.getD t undef, tmps.getD u undef, tmps.getD v undef, tmps.getD x undef, tmps.getD y undef]) w := by
  simp [results, h]
set_option maxRecDepth 100000 in
set_option maxHeartbeats 4000000 in
theorem l20Fours_any {w : World} {B g : Nat} {u : Int} (hR : RdU w B g u) (hB : B ≤ w.heap.size) (hu : u ≤ 200000) :
    Calls Try.prog 85 #[.pointer (some ⟨g, 0, none⟩)] w fun e w' => ∃ A c V D a b x y, e = .returned (.tuple #[.slice A (List.length D) c, .int .i64 a, .int .i64 b, .int .i64 x, .int .i64 y]) ∧ ObjM w.heap.size w' A c D V ∧ D.length ≤ 6 ∧ RdU w' B g (u + 100) ∧ ExtG g w w' := by
  have hg := hR.lt
  have HR := Lib.hid hR
  clear hR
  go_enter Try.func85, Try.ntmps85
  go_wp2_with fail
  refine (l20Tree_any HR.out hB (by omega) 12 (by omega) (by omega)).mono ?_
  rintro e w1 ⟨A, c, V, D, rfl, hO, hD, hR1, hX1⟩
  have HO1 := Lib.hid hO
  have HR1 := Lib.hid hR1
  have HX1 := Lib.hid hX1
  clear hO hR1 hX1 HR
  by_cases h1 : 1 ≤ D.length
  · have hm1 : (1 : Int) ≤ (D.length : Nat) := by omega
    have h1' : (1 : Int) < (D.length : Nat) ∨ (D.length : Int) = 1 := by omega
    go_wp2_with fail
    refine (pickU HR1.out (D.length : Int) (by omega) (by omega) (by omega)).mono ?_
    rintro e w2 ⟨v2, rfl, v2a, v2b, hR, hO⟩
    have HR2 := Lib.hid hR
    have HO2 := Lib.hid (HO1.out.rd hO (by omega))
    have HX2 := Lib.hid (HX1.out.rd hO)
    clear hR hO HO1 HX1 HR1
    go_wp2_with fail
    refine (pickU HR2.out 20 (by omega) (by omega) (by omega)).mono ?_
    rintro e w3 ⟨v3, rfl, v3a, v3b, hR, hO⟩
    have HR3 := Lib.hid hR
    have HO3 := Lib.hid (HO2.out.rd hO (by omega))
    have HX3 := Lib.hid (HX2.out.rd hO)
    clear hR hO HO2 HX2 HR2
    go_wp2_with fail
    refine (pickU HR3.out (D.length : Int) (by omega) (by omega) (by omega)).mono ?_
    rintro e w4 ⟨v4, rfl, v4a, v4b, hR, hO⟩
    have HR4 := Lib.hid hR
    have HO4 := Lib.hid (HO3.out.rd hO (by omega))
    have HX4 := Lib.hid (HX3.out.rd hO)
    clear hR hO HO3 HX3 HR3
    go_wp2_with fail
    refine (pickU HR4.out (D.length : Int) (by omega) (by omega) (by omega)).mono ?_
    rintro e w5 ⟨v5, rfl, v5a, v5b, hR, hO⟩
    have HR5 := Lib.hid hR
    have HO5 := Lib.hid (HO4.out.rd hO (by omega))
    have HX5 := Lib.hid (HX4.out.rd hO)
    clear hR hO HO4 HX4 HR4
    go_wp2_with fail
    refine (pickU HR5.out (D.length : Int) (by omega) (by omega) (by omega)).mono ?_
    rintro e w6 ⟨v6, rfl, v6a, v6b, hR, hO⟩
    have HR6 := Lib.hid hR
    have HO6 := Lib.hid (HO5.out.rd hO (by omega))
    have HX6 := Lib.hid (HX5.out.rd hO)
    clear hR hO HO5 HX5 HR5
    go_wp2
    (try simp only [Exit.inBlock, Exit.then])
    refine bodyPost_ret (results_tmp5 rfl _ _ _) rfl ?_
    exact ⟨A, c, V, D, _, _, _, _, rfl, HO6.out, hD, HR6.out.le (by omega), HX6.out⟩
  · have h0' : (D.length : Int) < 1 := by omega
    go_wp2_with fail
    refine (pickU HR1.out 1 (by omega) (by omega) (by omega)).mono ?_
    rintro e w2 ⟨v2, rfl, v2a, v2b, hR, hO⟩
    have HR2 := Lib.hid hR
    have HO2 := Lib.hid (HO1.out.rd hO (by omega))
    have HX2 := Lib.hid (HX1.out.rd hO)
    clear hR hO HO1 HX1 HR1
    go_wp2_with fail
    refine (pickU HR2.out 20 (by omega) (by omega) (by omega)).mono ?_
    rintro e w3 ⟨v3, rfl, v3a, v3b, hR, hO⟩
    have HR3 := Lib.hid hR
    have HO3 := Lib.hid (HO2.out.rd hO (by omega))
    have HX3 := Lib.hid (HX2.out.rd hO)
    clear hR hO HO2 HX2 HR2
    go_wp2_with fail
    refine (pickU HR3.out 1 (by omega) (by omega) (by omega)).mono ?_
    rintro e w4 ⟨v4, rfl, v4a, v4b, hR, hO⟩
    have HR4 := Lib.hid hR
    have HO4 := Lib.hid (HO3.out.rd hO (by omega))
    have HX4 := Lib.hid (HX3.out.rd hO)
    clear hR hO HO3 HX3 HR3
    go_wp2_with fail
    refine (pickU HR4.out 1 (by omega) (by omega) (by omega)).mono ?_
    rintro e w5 ⟨v5, rfl, v5a, v5b, hR, hO⟩
    have HR5 := Lib.hid hR
    have HO5 := Lib.hid (HO4.out.rd hO (by omega))
    have HX5 := Lib.hid (HX4.out.rd hO)
    clear hR hO HO4 HX4 HR4
    go_wp2_with fail
    refine (pickU HR5.out 1 (by omega) (by omega) (by omega)).mono ?_
    rintro e w6 ⟨v6, rfl, v6a, v6b, hR, hO⟩
    have HR6 := Lib.hid hR
    have HO6 := Lib.hid (HO5.out.rd hO (by omega))
    have HX6 := Lib.hid (HX5.out.rd hO)
    clear hR hO HO5 HX5 HR5
    go_wp2
    (try simp only [Exit.inBlock, Exit.then])
    refine bodyPost_ret (results_tmp5 rfl _ _ _) rfl ?_
    exact ⟨A, c, V, D, _, _, _, _, rfl, HO6.out, hD, HR6.out.le (by omega), HX6.out⟩
set_option maxHeartbeats 1000000 in
theorem drawMiddlesOf_any (A : Option Addr) (n c : Nat) (w : World) (h : Byt w A n c) :
    Calls Try.prog 17 #[.slice A n c] w fun e w' => ∃ A1 c1 D a b x, e = .returned (.tuple #[.slice A1 (List.length D) c1, .int .i64 a, .int .i64 b, .int .i64 x]) ∧ Mat w' A1 c1 D ∧ D.length ≤ 6 ∧ Ext w w' := by
  go_enter Try.func17, Try.ntmps17
  go_wp2_with fail
  refine (open_any A n c w h).mono ?_
  rintro e w1 ⟨g, rfl, hx1, hg, hR⟩
  have HR := Lib.hid hR
  have HX := Lib.hid hx1
  clear hR hx1
  go_wp2_with fail
  refine (l20Fours_any HR.out (Nat.le_refl _) (by omega)).mono ?_
  rintro e w2 ⟨A', c', V, D, a, b, x, y, rfl, hO, hD, hR2, hX2⟩
  have HM := Lib.hid hO.mat
  have HX3 := Lib.hid (hX2.ext HX.out hg)
  clear hO hR2 hX2
  go_wp2
  (try simp only [Exit.inBlock, Exit.then])
  refine bodyPost_ret (results_tmp4 rfl _ _ _) rfl ?_
  exact ⟨_, _, D, a, b, x, rfl, HM.out, hD, HX3.out⟩
end Go.Proofs.Ytpfbnaachibbfab
