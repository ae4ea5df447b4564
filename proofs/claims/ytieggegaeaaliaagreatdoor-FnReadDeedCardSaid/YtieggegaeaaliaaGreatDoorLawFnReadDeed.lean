/- What is proved: the walk of the law FnReadDeed (if l20Deed draws a deed). Conditions: those of the contract. -/
import Derived.Test.YtieggegaeaaliaaGreatDoorDrRd
import Derived.Test.YtieggegaeaaliaaGreatDoorSds
import Derived.Test.YtieggegaeaaliaaGreatDoorJq
import Derived.Test.YtieggegaeaaliaaGreatDoorLawReadDeed
import Derived.Test.YtieggegaeaaliaaGreatDoorLawDeedText
import Derived.Test.YtieggegaeaaliaaGreatDoorAlive
namespace Go.Proofs.YtieggegaeaaliaaGreatDoor
open Go.RowKit
set_option maxRecDepth 100000 in
set_option maxHeartbeats 8000000 in
theorem FnReadDeed_walk (hDeed : DeedAny) (A : Option Addr) (n c : Nat) (w : World) (h : Byt w A n c) (hE : Env w) :
    Calls Tryz.prog 3 #[.slice A n c] w fun e w' => e = .returned (.bool true) ∧ Ext w w' := by
  by_cases hz : 1048576 < n
  · have hz' : (1048576 : Int) < (n : Nat) := by omega
    go_enter Tryz.func3, Tryz.ntmps3
    go_wp2
    go_ret
    exact ⟨rfl, (by repeat (first | exact Ext.refl _ | assumption | apply Ext.drewN' | apply Ext.alloc' | refine Ext.trans ?_ (by assumption)))⟩
  have hz' : ¬ (1048576 : Int) < (n : Nat) := by omega
  have HE := Lib.hid hE
  have HDR := Lib.hid (drawReadDeed_any hDeed A n c w h)
  clear h hE
  go_enter Tryz.func3, Tryz.ntmps3
  go_wp2_with fail
  refine HDR.out.mono ?_
  rintro e w1 ⟨L, rfl, hL, hx1⟩
  have hsz := tx_size L
  have h1 : L.length ≤ 1048576 := by omega
  have h2 : (L ++ [32]).length ≤ 1048576 := by rw [List.length_append, List.length_singleton]; omega
  have HIR := fun W (q : Ext w1 W) => iReadDeed_any L W h1 (HE.out.ext (hx1.trans q))
  have HIM := fun W (q : Ext w1 W) => iReadDeed_any (L ++ [32]) W h2 (HE.out.ext (hx1.trans q))
  have HSR := fun W => sReadDeed_any L W h1
  have HND := fun p (q : rdS L = some p) => (rdS_sound q).2
  have hrl := rx_len L
  rw [rd_same] at HIR
  rw [rd_same, rdS_space] at HIM
  have eM : ((⟨L.toArray⟩ : ByteArray) ++ ⟨#[32]⟩) = ⟨(L ++ [32]).toArray⟩ := tx_add L [32]
  obtain ⟨M, hM⟩ : ∃ M, L ++ [32] = M := ⟨_, rfl⟩
  rw [hM] at HIM eM
  obtain ⟨r, hr⟩ : ∃ r, rdS L = r := ⟨_, rfl⟩
  rw [hr] at HIR HSR HND hrl
  obtain ⟨k, hk⟩ : ∃ k, rk r = k := ⟨_, rfl⟩
  obtain ⟨xs, hxs⟩ : ∃ k, rx r = k := ⟨_, rfl⟩
  obtain ⟨b, hb⟩ : ∃ k, r.isSome = k := ⟨_, rfl⟩
  have HI' : Hid (∀ W, Ext w1 W → Calls Tryz.prog 6 #[.string ⟨L.toArray⟩] W fun e W' => ∃ v, e = .returned (.tuple #[.agg #[.int .i64 k, v], .bool b]) ∧ Leaf W' v xs ∧ (∀ g ∈ lb v, W.heap.size ≤ g) ∧ Ext W W') := Lib.hid (by rw [← hk, ← hxs, ← hb]; exact HIR)
  have HS' : Hid (∀ W, Calls Tryz.prog 7 #[.string ⟨L.toArray⟩] W fun e W' => ∃ v, e = .returned (.tuple #[.agg #[.int .i64 k, v], .bool b]) ∧ Leaf W' v xs ∧ (∀ g ∈ lb v, W.heap.size ≤ g) ∧ Ext W W') := Lib.hid (by rw [← hk, ← hxs, ← hb]; exact HSR)
  have HM' : Hid (∀ W, Ext w1 W → Calls Tryz.prog 6 #[.string ⟨M.toArray⟩] W fun e W' => ∃ v, e = .returned (.tuple #[.agg #[.int .i64 0, v], .bool false]) ∧ Leaf W' v [] ∧ (∀ g ∈ lb v, W.heap.size ≤ g) ∧ Ext W W') := Lib.hid HIM
  rw [hxs] at hrl
  have HK := Lib.hid (And.intro hk (And.intro hxs (And.intro hb HND)))
  have HX1 := Lib.hid hx1
  clear HIR HSR HIM HND hk hxs hb hr hM h1 h2 hx1 HDR
  unfold tx
  go_wp2_with fail
  refine (HI'.out _ (Ext.refl _)).mono ?_
  rintro e w2 ⟨v2, rfl, hL2, -, hx2⟩
  obtain ⟨A2, c2, rfl, hI2⟩ := hL2.ints
  obtain ⟨w3, hw3⟩ : ∃ W, w2.alloc (.cells #[.int .i64 k, .slice A2 xs.length c2] 26) = W := ⟨_, rfl⟩
  have hx23 : Ext w2 w3 := by rw [← hw3]; exact Ext.alloc _ _
  have hb3 := heap_alloc_new w2 (.cells #[.int .i64 k, .slice A2 xs.length c2] 26)
  rw [hw3] at hb3
  have HB3 := Lib.hid (fun W (q : Ext w3 W) => two_cells ((q.block (heap_lt hb3)).trans hb3))
  have HI2 := Lib.hid (fun W (q : Ext w3 W) => hI2.ext (hx23.trans q))
  have HX13 := Lib.hid (hx2.trans hx23)
  clear hL2 hI2 hx2 hx23 hb3
  go_wp2_with fail
  clear hw3
  refine (HS'.out w3).mono ?_
  rintro e w4 ⟨v4, rfl, hL4, -, hx4⟩
  obtain ⟨A4, c4, rfl, hI4⟩ := hL4.ints
  obtain ⟨w5, hw5⟩ : ∃ W, w4.alloc (.cells #[.int .i64 k, .slice A4 xs.length c4] 26) = W := ⟨_, rfl⟩
  have hx45 : Ext w4 w5 := by rw [← hw5]; exact Ext.alloc _ _
  have hb5 := heap_alloc_new w4 (.cells #[.int .i64 k, .slice A4 xs.length c4] 26)
  rw [hw5] at hb5
  have HI4 := Lib.hid (hI4.ext hx45)
  have HX35 := Lib.hid (hx4.trans hx45)
  obtain ⟨q0, q1⟩ := two_cells hb5
  obtain ⟨p0, p1⟩ := HB3.out w5 HX35.out
  clear hL4 hI4 hx4 hx45 hb5 HS'
  go_wp2_with fail
  clear hw5
  refine (sameDeed_any k A2 A4 c2 c4 xs w5 (HI2.out _ HX35.out) HI4.out).mono ?_
  rintro e w6 ⟨rfl, hx6⟩
  clear p0 p1 q0 q1
  have HX36 := Lib.hid (HX35.out.trans hx6)
  obtain ⟨p0, p1⟩ := HB3.out w6 HX36.out
  clear hx6
  cases b with
  | true =>
    obtain ⟨a, rfl⟩ : ∃ a, r = some a := Option.isSome_iff_exists.1 HK.out.2.2.1
    have hT : dtx k xs = L := by
      have h1 := HK.out.1
      have h2 := HK.out.2.1
      rw [← h1, ← h2]
      exact HK.out.2.2.2 a rfl
    have HDT0 := fun W (q : Ext w3 W) => iDeedText_any k A2 c2 xs W (HI2.out W q) (HE.out.ext (HX1.out.trans (HX13.out.trans q))).1 (by omega)
    rw [hT] at HDT0
    have HDT := Lib.hid HDT0
    clear hT HDT0
    go_wp2_with fail
    refine (HM'.out _ (HX13.out.trans HX36.out)).mono ?_
    rintro e w7 ⟨v7, rfl, hL7, -, hx7⟩
    obtain ⟨A7, c7, rfl, -⟩ := hL7.ints
    obtain ⟨w8, hw8⟩ : ∃ W, w7.alloc (.cells #[.int .i64 0, .slice A7 0 c7] 26) = W := ⟨_, rfl⟩
    have hx78 : Ext w7 w8 := by rw [← hw8]; exact Ext.alloc _ _
    have HX38 := Lib.hid (HX36.out.trans (hx7.trans hx78))
    clear p0 p1 hL7 hx7 hx78
    obtain ⟨p0, p1⟩ := HB3.out w8 HX38.out
    go_wp2_with fail
    clear hw8
    refine (HDT.out w8 HX38.out).mono ?_
    rintro e w9 ⟨rfl, hx9⟩
    unfold tx
    go_wp2_with fail
    go_ret
    exact ⟨rfl, HX1.out.trans (HX13.out.trans (HX38.out.trans hx9))⟩
  | false =>
    have hr0 : r = none := by
      cases r with
      | none => rfl
      | some a => exact absurd HK.out.2.2.1 (by simp)
    subst hr0
    have hk0 : k = 0 := HK.out.1.symm
    have hx0 : xs = [] := HK.out.2.1.symm
    subst hk0 hx0
    have HS0 : Hid (∀ W, Ext w3 W → Calls Tryz.prog 8 #[.agg #[.int .i64 0, .slice A2 0 c2], .agg #[.int .i64 0, .slice none 0 0]] W fun e W' => e = .returned (.bool true) ∧ Ext W W') := Lib.hid (fun W q => sameDeed_any 0 A2 none c2 0 [] W (HI2.out W q) (Ints.nil _ _ _ (Nat.zero_le _)))
    go_wp2_with fail
    refine (HS0.out w6 HX36.out).mono ?_
    rintro e w7 ⟨rfl, hx7⟩
    have HAL := Lib.hid (alive_any w7)
    go_wp2_with fail
    refine HAL.out.mono ?_
    rintro e w8 ⟨rfl, hx8⟩
    go_wp2_with fail
    go_ret
    exact ⟨rfl, HX1.out.trans (HX13.out.trans (HX36.out.trans (hx7.trans hx8)))⟩
end Go.Proofs.YtieggegaeaaliaaGreatDoor
