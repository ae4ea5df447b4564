/- What is proved: l20Line draws a line (if l20Deed draws a deed); DrawDeskLine. Conditions: those of each contract. -/
import Derived.Test.YtnalcgcdohlfiaaGreatDoorDsk
import Derived.Test.YtnalcgcdohlfiaaGreatDoorSpo
import Derived.Test.YtnalcgcdohlfiaaGreatDoorJt
import Derived.Test.YtnalcgcdohlfiaaGreatDoorDrDo
import Derived.Test.YtnalcgcdohlfiaaGreatDoorPg
import Derived.Deep.RegionLaw
namespace Go.Proofs.YtnalcgcdohlfiaaGreatDoor
open Go.RowKit
theorem lit_seven {v : Int} (h0 : 0 ≤ v) (h6 : v < 7) : ∃ T : List UInt8, (∀ h, ([Value.string ⟨#[112, 111, 105, 110, 116, 115]⟩, .string ⟨#[119, 105, 100, 101]⟩, .string ⟨#[114, 97, 100, 105, 117, 115]⟩, .string ⟨#[103, 97, 112]⟩, .string ⟨#[109, 101, 100, 105, 97, 110, 115]⟩, .string ⟨#[115, 116, 101, 112, 115]⟩, .string ⟨#[115, 112, 108, 105, 116, 115]⟩] : List Value)[v.toNat]'h = .string ⟨T.toArray⟩) ∧ T.length ≤ 7 := by
  have : v = 0 ∨ v = 1 ∨ v = 2 ∨ v = 3 ∨ v = 4 ∨ v = 5 ∨ v = 6 := by omega
  rcases this with rfl | rfl | rfl | rfl | rfl | rfl | rfl
  · exact ⟨[112, 111, 105, 110, 116, 115], fun _ => rfl, by simp⟩
  · exact ⟨[119, 105, 100, 101], fun _ => rfl, by simp⟩
  · exact ⟨[114, 97, 100, 105, 117, 115], fun _ => rfl, by simp⟩
  · exact ⟨[103, 97, 112], fun _ => rfl, by simp⟩
  · exact ⟨[109, 101, 100, 105, 97, 110, 115], fun _ => rfl, by simp⟩
  · exact ⟨[115, 116, 101, 112, 115], fun _ => rfl, by simp⟩
  · exact ⟨[115, 112, 108, 105, 116, 115], fun _ => rfl, by simp⟩
theorem lit_twelve {v : Int} (h0 : 0 ≤ v) (h6 : v < 12) : ∃ T : List UInt8, (∀ h, ([Value.string ⟨#[]⟩, .string ⟨#[112, 117, 116]⟩, .string ⟨#[112, 117, 116, 32]⟩, .string ⟨#[100, 114, 111, 112]⟩, .string ⟨#[100, 114, 111, 112, 32, 120]⟩, .string ⟨#[102, 97, 114]⟩, .string ⟨#[102, 97, 114, 32, 48]⟩, .string ⟨#[102, 97, 114, 32, 48, 44, 57]⟩, .string ⟨#[98, 101, 116, 119, 101, 101, 110, 32, 48, 44, 48, 44, 48]⟩, .string ⟨#[102, 97, 114, 32, 48, 48, 44, 49]⟩, .string ⟨#[32, 119, 105, 100, 101]⟩, .string ⟨#[98, 97, 99, 107, 32, 49]⟩] : List Value)[v.toNat]'h = .string ⟨T.toArray⟩) ∧ T.length ≤ 13 := by
  have : v = 0 ∨ v = 1 ∨ v = 2 ∨ v = 3 ∨ v = 4 ∨ v = 5 ∨ v = 6 ∨ v = 7 ∨ v = 8 ∨ v = 9 ∨ v = 10 ∨ v = 11 := by omega
  rcases this with rfl | rfl | rfl | rfl | rfl | rfl | rfl | rfl | rfl | rfl | rfl | rfl
  · exact ⟨[], fun _ => rfl, by simp⟩
  · exact ⟨[112, 117, 116], fun _ => rfl, by simp⟩
  · exact ⟨[112, 117, 116, 32], fun _ => rfl, by simp⟩
  · exact ⟨[100, 114, 111, 112], fun _ => rfl, by simp⟩
  · exact ⟨[100, 114, 111, 112, 32, 120], fun _ => rfl, by simp⟩
  · exact ⟨[102, 97, 114], fun _ => rfl, by simp⟩
  · exact ⟨[102, 97, 114, 32, 48], fun _ => rfl, by simp⟩
  · exact ⟨[102, 97, 114, 32, 48, 44, 57], fun _ => rfl, by simp⟩
  · exact ⟨[98, 101, 116, 119, 101, 101, 110, 32, 48, 44, 48, 44, 48], fun _ => rfl, by simp⟩
  · exact ⟨[102, 97, 114, 32, 48, 48, 44, 49], fun _ => rfl, by simp⟩
  · exact ⟨[32, 119, 105, 100, 101], fun _ => rfl, by simp⟩
  · exact ⟨[98, 97, 99, 107, 32, 49], fun _ => rfl, by simp⟩
theorem lit_pair {v : Int} (h0 : 0 ≤ v) (h6 : v < 2) : ∃ T : List UInt8, (∀ h, ([Value.string ⟨#[102, 97, 114, 32]⟩, .string ⟨#[98, 101, 116, 119, 101, 101, 110, 32]⟩] : List Value)[v.toNat]'h = .string ⟨T.toArray⟩) ∧ T.length ≤ 8 := by
  have : v = 0 ∨ v = 1 := by omega
  rcases this with rfl | rfl
  · exact ⟨[102, 97, 114, 32], fun _ => rfl, by simp⟩
  · exact ⟨[98, 101, 116, 119, 101, 101, 110, 32], fun _ => rfl, by simp⟩
theorem Under.on {g : Nat} {w w' : World} {A : Option Addr} {c : Nat} {D : List (List Int)} (h : Under w.heap.size g w A c D) (k : ExtG g w w') : Under w'.heap.size g w' A c D :=
  fun W hW => h W fun i hi hne => (hW i (by have := k.size; omega) hne).trans (k.2.2.2.2 i hi hne)
set_option maxRecDepth 100000 in
set_option maxHeartbeats 8000000 in
theorem l20Line_any (hDeed : DeedAny) {w : World} {B g : Nat} {u : Int} (hR : RdU w B g u) (hB : B ≤ w.heap.size) (hu : u ≤ 100000) (A : Option Addr) (c : Nat) (D : List (List Int)) (p2 : Value) (hU : Under w.heap.size g w A c D) (hS : SmallD D) (hp2 : p2.oneCell' = true) :
    Calls Tryz.prog 16 #[.pointer (some ⟨g, 0, none⟩), .agg #[.slice A D.length c, p2]] w (DrawnTx w B g (u + 40) 200) := by
  have hg := hR.lt
  obtain ⟨w0, hw0⟩ : ∃ W, w.alloc (.cells #[.slice A D.length c, p2] 26) = W := ⟨_, rfl⟩
  have hx0 : Ext w w0 := by rw [← hw0]; exact Ext.alloc _ _
  have hb0 := heap_alloc_new w (.cells #[.slice A D.length c, p2] 26)
  rw [hw0] at hb0
  have HR := Lib.hid (hR.ext hx0 hB)
  have hs0 := hx0.size
  have HG0 := Lib.hid (hx0.toG g)
  have HB0 := Lib.hid hb0
  have HU := Lib.hid hU
  clear hR hx0 hb0 hU
  go_enter Tryz.func16, Tryz.ntmps16
  go_wp2_with fail
  refine (pickU HR.out 6 (by omega) (by omega) (by omega)).mono ?_
  rintro e w1 ⟨k, rfl, k0, k1, hR1, hO1⟩
  have hs1 : w1.heap.size = w0.heap.size := hO1.2.2.2.1
  have hb1 : w1.heap[w.heap.size]? = some (.cells #[.slice A D.length c, p2] 26 (0, 0)) := (hO1.2.2.2.2 _ (by show w.heap.size ≠ g; omega)).trans HB0.out
  obtain ⟨p0, p1⟩ := two_cells hb1
  have HG1 := Lib.hid (HG0.out.rd hO1)
  have HR1 := Lib.hid hR1
  have hB1 : B ≤ w1.heap.size := by omega
  have hg1 : g < w1.heap.size := by omega
  have HRA := Lib.hid (hR1.ext (Ext.alloc w1 (.cells #[] 9)) hB1)
  clear hR1 hO1 hb1 hs1 HR hw0
  have hk6 : k = 0 ∨ k = 1 ∨ k = 2 ∨ k = 3 ∨ (4 ≤ k ∧ k < 6) := by omega
  clear HRA
  rcases hk6 with rfl | rfl | rfl | rfl | hk
  · have HRA := Lib.hid (HR1.out.ext (Ext.alloc w1 (.cells #[.string ⟨#[112, 111, 105, 110, 116, 115]⟩, .string ⟨#[119, 105, 100, 101]⟩, .string ⟨#[114, 97, 100, 105, 117, 115]⟩, .string ⟨#[103, 97, 112]⟩, .string ⟨#[109, 101, 100, 105, 97, 110, 115]⟩, .string ⟨#[115, 116, 101, 112, 115]⟩, .string ⟨#[115, 112, 108, 105, 116, 115]⟩] 9)) hB1)
    have HGA := Lib.hid (HG1.out.on (Ext.alloc w1 (.cells #[.string ⟨#[112, 111, 105, 110, 116, 115]⟩, .string ⟨#[119, 105, 100, 101]⟩, .string ⟨#[114, 97, 100, 105, 117, 115]⟩, .string ⟨#[103, 97, 112]⟩, .string ⟨#[109, 101, 100, 105, 97, 110, 115]⟩, .string ⟨#[115, 116, 101, 112, 115]⟩, .string ⟨#[115, 112, 108, 105, 116, 115]⟩] 9)))
    go_wp2_with fail
    refine (pickU HRA.out 7 (by omega) (by omega) (by omega)).mono ?_
    rintro e w2 ⟨v2, rfl, a0, a1, hR2, hO2⟩
    have l2 : v2 < 7 := by omega
    obtain ⟨T, hT, hT4⟩ := lit_seven a0 l2
    have x2c : ∀ o, w2.cell? ⟨w1.heap.size, o, none⟩ = _ := fun o => World.cell?_of_block (hO2.2.2.2.2 _ (by show w1.heap.size ≠ g; omega))
    have hs2 : w2.heap.size = (w1.alloc _).heap.size := hO2.2.2.2.1
    have HF := Lib.hid (And.intro (hR2.le (u' := u + 40) (by omega)) (HGA.out.rd hO2))
    clear hR2 hO2 hs2
    go_wp2_with fail
    go_ret
    exact ⟨T, rfl, by omega, HF.out.1, HF.out.2⟩
  · have HRA := Lib.hid (HR1.out.ext (Ext.alloc w1 (.cells #[.string ⟨#[112, 111, 105, 110, 116, 115]⟩, .string ⟨#[119, 105, 100, 101]⟩, .string ⟨#[114, 97, 100, 105, 117, 115]⟩, .string ⟨#[103, 97, 112]⟩, .string ⟨#[109, 101, 100, 105, 97, 110, 115]⟩, .string ⟨#[115, 116, 101, 112, 115]⟩, .string ⟨#[115, 112, 108, 105, 116, 115]⟩] 9)) hB1)
    have HGA := Lib.hid (HG1.out.on (Ext.alloc w1 (.cells #[.string ⟨#[112, 111, 105, 110, 116, 115]⟩, .string ⟨#[119, 105, 100, 101]⟩, .string ⟨#[114, 97, 100, 105, 117, 115]⟩, .string ⟨#[103, 97, 112]⟩, .string ⟨#[109, 101, 100, 105, 97, 110, 115]⟩, .string ⟨#[115, 116, 101, 112, 115]⟩, .string ⟨#[115, 112, 108, 105, 116, 115]⟩] 9)))
    go_wp2_with fail
    refine (pickU HRA.out 7 (by omega) (by omega) (by omega)).mono ?_
    rintro e w2 ⟨v2, rfl, a0, a1, hR2, hO2⟩
    have l2 : v2 < 7 := by omega
    obtain ⟨T, hT, hT4⟩ := lit_seven a0 l2
    have x2c : ∀ o, w2.cell? ⟨w1.heap.size, o, none⟩ = _ := fun o => World.cell?_of_block (hO2.2.2.2.2 _ (by show w1.heap.size ≠ g; omega))
    have hs2 : w2.heap.size = (w1.alloc _).heap.size := hO2.2.2.2.1
    have HF := Lib.hid (And.intro (hR2.le (u' := u + 40) (by omega)) (HGA.out.rd hO2))
    clear hR2 hO2 hs2
    go_wp2_with fail
    go_ret
    exact ⟨T, rfl, by omega, HF.out.1, HF.out.2⟩
  · have HRA := Lib.hid (HR1.out.ext (Ext.alloc w1 (.cells #[.string ⟨#[]⟩, .string ⟨#[112, 117, 116]⟩, .string ⟨#[112, 117, 116, 32]⟩, .string ⟨#[100, 114, 111, 112]⟩, .string ⟨#[100, 114, 111, 112, 32, 120]⟩, .string ⟨#[102, 97, 114]⟩, .string ⟨#[102, 97, 114, 32, 48]⟩, .string ⟨#[102, 97, 114, 32, 48, 44, 57]⟩, .string ⟨#[98, 101, 116, 119, 101, 101, 110, 32, 48, 44, 48, 44, 48]⟩, .string ⟨#[102, 97, 114, 32, 48, 48, 44, 49]⟩, .string ⟨#[32, 119, 105, 100, 101]⟩, .string ⟨#[98, 97, 99, 107, 32, 49]⟩] 9)) hB1)
    have HGA := Lib.hid (HG1.out.on (Ext.alloc w1 (.cells #[.string ⟨#[]⟩, .string ⟨#[112, 117, 116]⟩, .string ⟨#[112, 117, 116, 32]⟩, .string ⟨#[100, 114, 111, 112]⟩, .string ⟨#[100, 114, 111, 112, 32, 120]⟩, .string ⟨#[102, 97, 114]⟩, .string ⟨#[102, 97, 114, 32, 48]⟩, .string ⟨#[102, 97, 114, 32, 48, 44, 57]⟩, .string ⟨#[98, 101, 116, 119, 101, 101, 110, 32, 48, 44, 48, 44, 48]⟩, .string ⟨#[102, 97, 114, 32, 48, 48, 44, 49]⟩, .string ⟨#[32, 119, 105, 100, 101]⟩, .string ⟨#[98, 97, 99, 107, 32, 49]⟩] 9)))
    go_wp2_with fail
    refine (pickU HRA.out 12 (by omega) (by omega) (by omega)).mono ?_
    rintro e w2 ⟨v2, rfl, a0, a1, hR2, hO2⟩
    have l2 : v2 < 12 := by omega
    obtain ⟨T, hT, hT4⟩ := lit_twelve a0 l2
    have x2c : ∀ o, w2.cell? ⟨w1.heap.size, o, none⟩ = _ := fun o => World.cell?_of_block (hO2.2.2.2.2 _ (by show w1.heap.size ≠ g; omega))
    have hs2 : w2.heap.size = (w1.alloc _).heap.size := hO2.2.2.2.1
    have HF := Lib.hid (And.intro (hR2.le (u' := u + 40) (by omega)) (HGA.out.rd hO2))
    clear hR2 hO2 hs2
    go_wp2_with fail
    go_ret
    exact ⟨T, rfl, by omega, HF.out.1, HF.out.2⟩
  · go_wp2_with fail
    go_region_law (go_simp; first | (go_at_call 29; (fail_if_success (have q := hx9)); have qq := l8; clear qq; refine (l1Number_z v8 (by omega) _).mono ?_; rintro e w9 ⟨rfl, hx9⟩; have hX9 : Ext w8 w9 := Ext.trans (by repeat (first | exact Ext.refl _ | apply Ext.drew' | apply Ext.alloc')) hx9; (try have y9_0 : w1.heap.size < w9.heap.size := (by have := hx9.size; (first | omega | (simp at this; omega)))); (try have y9_1 : w5.heap.size < w9.heap.size := (by have := hx9.size; (first | omega | (simp at this; omega)))); (try have y9_2 : w6.heap.size < w9.heap.size := (by have := hx9.size; (first | omega | (simp at this; omega)))); (try have y9_3 : w7.heap.size < w9.heap.size := (by have := hx9.size; (first | omega | (simp at this; omega)))); (try have y9_4 : w8.heap.size < w9.heap.size := (by have := hx9.size; (first | omega | (simp at this; omega)))); have hs9 : B ≤ w9.heap.size := Nat.le_trans hs8 hX9.size; have HR9 := Lib.hid (HR8.out.ext hX9 hs8); have HG9 := Lib.hid (HG8.out.on hX9); have d9 := dg_len (x := v8) (by omega); obtain ⟨R3, hRR3⟩ : ∃ r, R2 ++ dg v8 = r := ⟨_, rfl⟩; have f3 : ((⟨R2.toArray⟩ : ByteArray) ++ ⟨(dg v8).toArray⟩) = ⟨R3.toArray⟩ := (by rw [← hRR3]; exact tx_add R2 (dg v8)); have hl3 : R3.length ≤ 20 := (by rw [← hRR3, List.length_append]; omega); have n3 : ¬ 9223372036854775807 < R2.length + (dg v8).length := (by omega); clear hRR3; (try have x9_0 : ∀ o, w9.cell? ⟨w1.heap.size, o, none⟩ = _ := (fun o => World.cell?_of_block (hx9.block (by first | omega | (simp; done) | (simp; omega))))); (try have x9_1 : ∀ o, w9.cell? ⟨w5.heap.size, o, none⟩ = _ := (fun o => World.cell?_of_block (hx9.block (by first | omega | (simp; done) | (simp; omega))))); (try have x9_2 : ∀ o, w9.cell? ⟨w6.heap.size, o, none⟩ = _ := (fun o => World.cell?_of_block (hx9.block (by first | omega | (simp; done) | (simp; omega))))); (try have x9_3 : ∀ o, w9.cell? ⟨w7.heap.size, o, none⟩ = _ := (fun o => World.cell?_of_block (hx9.block (by first | omega | (simp; done) | (simp; omega))))); (try have x9_4 : ∀ o, w9.cell? ⟨w8.heap.size, o, none⟩ = _ := (fun o => World.cell?_of_block (hx9.block (by first | omega | (simp; done) | (simp; omega))))); unfold tx) | (go_at_call 15; (fail_if_success (have q := hO8)); have qq := HR7; clear qq; refine (pickU (HR7.out.ext (by repeat (first | exact Ext.refl _ | apply Ext.drew' | apply Ext.alloc')) hs7) 4 (by omega) (by omega) (by omega)).mono ?_; rintro e w8 ⟨v8, rfl, a80, a81, hR8, hO8⟩; (try have y8_0 : w1.heap.size < w8.heap.size := (by rw [hO8.2.2.2.1]; (first | omega | (simp; done) | (simp; omega)))); (try have y8_1 : w5.heap.size < w8.heap.size := (by rw [hO8.2.2.2.1]; (first | omega | (simp; done) | (simp; omega)))); (try have y8_2 : w6.heap.size < w8.heap.size := (by rw [hO8.2.2.2.1]; (first | omega | (simp; done) | (simp; omega)))); (try have y8_3 : w7.heap.size < w8.heap.size := (by rw [hO8.2.2.2.1]; (first | omega | (simp; done) | (simp; omega)))); have l8 : v8 < 4 := (by omega); have hs8 : B ≤ w8.heap.size := (by rw [hO8.2.2.2.1]; exact Nat.le_trans hs7 (Ext.size (by repeat (first | exact Ext.refl _ | apply Ext.drew' | apply Ext.alloc')))); have HR8 := Lib.hid hR8; have HG8 := Lib.hid ((HG7.out.on (by repeat (first | exact Ext.refl _ | apply Ext.drew' | apply Ext.alloc'))).rd hO8); (try have x8_0 : ∀ o, w8.cell? ⟨w1.heap.size, o, none⟩ = _ := (fun o => World.cell?_of_block (hO8.2.2.2.2 _ (by show w1.heap.size ≠ g; omega)))); (try have x8_1 : ∀ o, w8.cell? ⟨w5.heap.size, o, none⟩ = _ := (fun o => World.cell?_of_block (hO8.2.2.2.2 _ (by show w5.heap.size ≠ g; omega)))); (try have x8_2 : ∀ o, w8.cell? ⟨w6.heap.size, o, none⟩ = _ := (fun o => World.cell?_of_block (hO8.2.2.2.2 _ (by show w6.heap.size ≠ g; omega)))); (try have x8_3 : ∀ o, w8.cell? ⟨w7.heap.size, o, none⟩ = _ := (fun o => World.cell?_of_block (hO8.2.2.2.2 _ (by show w7.heap.size ≠ g; omega)))); clear hR8) | (go_at_call 29; (fail_if_success (have q := hx7)); have qq := l6; clear qq; refine (l1Number_z v6 (by omega) _).mono ?_; rintro e w7 ⟨rfl, hx7⟩; have hX7 : Ext w6 w7 := Ext.trans (by repeat (first | exact Ext.refl _ | apply Ext.drew' | apply Ext.alloc')) hx7; (try have y7_0 : w1.heap.size < w7.heap.size := (by have := hx7.size; (first | omega | (simp at this; omega)))); (try have y7_1 : w5.heap.size < w7.heap.size := (by have := hx7.size; (first | omega | (simp at this; omega)))); (try have y7_2 : w6.heap.size < w7.heap.size := (by have := hx7.size; (first | omega | (simp at this; omega)))); have hs7 : B ≤ w7.heap.size := Nat.le_trans hs6 hX7.size; have HR7 := Lib.hid (HR6.out.ext hX7 hs6); have HG7 := Lib.hid (HG6.out.on hX7); have d7 := dg_len (x := v6) (by omega); obtain ⟨R1, hRR1⟩ : ∃ r, T ++ dg v6 = r := ⟨_, rfl⟩; obtain ⟨R2, hRR2⟩ : ∃ r, R1 ++ [44] = r := ⟨_, rfl⟩; have f1 : ((⟨T.toArray⟩ : ByteArray) ++ ⟨(dg v6).toArray⟩) = ⟨R1.toArray⟩ := (by rw [← hRR1]; exact tx_add T (dg v6)); have f2 : ((⟨R1.toArray⟩ : ByteArray) ++ ⟨#[44]⟩) = ⟨R2.toArray⟩ := (by rw [← hRR2]; exact tx_add R1 [44]); have hl1 : R1.length ≤ 12 := (by rw [← hRR1, List.length_append]; omega); have hl2 : R2.length ≤ 13 := (by rw [← hRR2, List.length_append, List.length_singleton]; omega); have n1 : ¬ 9223372036854775807 < T.length + (dg v6).length := (by omega); have n2 : ¬ 9223372036854775807 < R1.length + 1 := (by omega); clear hRR1 hRR2; (try have x7_0 : ∀ o, w7.cell? ⟨w1.heap.size, o, none⟩ = _ := (fun o => World.cell?_of_block (hx7.block (by first | omega | (simp; done) | (simp; omega))))); (try have x7_1 : ∀ o, w7.cell? ⟨w5.heap.size, o, none⟩ = _ := (fun o => World.cell?_of_block (hx7.block (by first | omega | (simp; done) | (simp; omega))))); (try have x7_2 : ∀ o, w7.cell? ⟨w6.heap.size, o, none⟩ = _ := (fun o => World.cell?_of_block (hx7.block (by first | omega | (simp; done) | (simp; omega))))); unfold tx) | (go_at_call 15; (fail_if_success (have q := hO6)); have qq := HR5; clear qq; refine (pickU (HR5.out.ext (by repeat (first | exact Ext.refl _ | apply Ext.drew' | apply Ext.alloc')) hs5) 4 (by omega) (by omega) (by omega)).mono ?_; rintro e w6 ⟨v6, rfl, a60, a61, hR6, hO6⟩; (try have y6_0 : w1.heap.size < w6.heap.size := (by rw [hO6.2.2.2.1]; (first | omega | (simp; done) | (simp; omega)))); (try have y6_1 : w5.heap.size < w6.heap.size := (by rw [hO6.2.2.2.1]; (first | omega | (simp; done) | (simp; omega)))); have l6 : v6 < 4 := (by omega); have hs6 : B ≤ w6.heap.size := (by rw [hO6.2.2.2.1]; exact Nat.le_trans hs5 (Ext.size (by repeat (first | exact Ext.refl _ | apply Ext.drew' | apply Ext.alloc')))); have HR6 := Lib.hid hR6; have HG6 := Lib.hid ((HG5.out.on (by repeat (first | exact Ext.refl _ | apply Ext.drew' | apply Ext.alloc'))).rd hO6); (try have x6_0 : ∀ o, w6.cell? ⟨w1.heap.size, o, none⟩ = _ := (fun o => World.cell?_of_block (hO6.2.2.2.2 _ (by show w1.heap.size ≠ g; omega)))); (try have x6_1 : ∀ o, w6.cell? ⟨w5.heap.size, o, none⟩ = _ := (fun o => World.cell?_of_block (hO6.2.2.2.2 _ (by show w5.heap.size ≠ g; omega)))); clear hR6) | (go_at_call 15; (fail_if_success (have q := hO5)); have qq := HR1; clear qq; refine (pickU (HR1.out.ext (by repeat (first | exact Ext.refl _ | apply Ext.drew' | apply Ext.alloc')) hB1) 2 (by omega) (by omega) (by omega)).mono ?_; rintro e w5 ⟨v5, rfl, a50, a51, hR5, hO5⟩; (try have y5_0 : w1.heap.size < w5.heap.size := (by rw [hO5.2.2.2.1]; (first | omega | (simp; done) | (simp; omega)))); have l5 : v5 < 2 := (by omega); have hs5 : B ≤ w5.heap.size := (by rw [hO5.2.2.2.1]; exact Nat.le_trans hB1 (Ext.size (by repeat (first | exact Ext.refl _ | apply Ext.drew' | apply Ext.alloc')))); have HR5 := Lib.hid hR5; have HG5 := Lib.hid ((HG1.out.on (by repeat (first | exact Ext.refl _ | apply Ext.drew' | apply Ext.alloc'))).rd hO5); (try have x5_0 : ∀ o, w5.cell? ⟨w1.heap.size, o, none⟩ = _ := (fun o => World.cell?_of_block (hO5.2.2.2.2 _ (by show w1.heap.size ≠ g; omega)))); obtain ⟨T, hT, hT4⟩ := lit_pair a50 l5; clear hR5))
    all_goals
      go_wp2_with fail
      go_ret
      exact ⟨R3, rfl, by omega, (HR9.out.ext (by repeat (first | exact Ext.refl _ | apply Ext.drew' | apply Ext.alloc')) hs9).le (by omega), HG9.out.on (by repeat (first | exact Ext.refl _ | apply Ext.drew' | apply Ext.alloc'))⟩
  · have e0 : ((k : Int) == 0) = false := beq_eq_false_iff_ne.2 (by omega)
    have e1 : ((k : Int) == 1) = false := beq_eq_false_iff_ne.2 (by omega)
    have e2 : ((k : Int) == 2) = false := beq_eq_false_iff_ne.2 (by omega)
    have e3 : ((k : Int) == 3) = false := beq_eq_false_iff_ne.2 (by omega)
    have HD := Lib.hid (hDeed w1 B g (u + 1) HR1.out hB1 (by omega) A c D p2 (HU.out.on HG1.out) hS.1 hS.2 hp2)
    go_wp2_with fail
    refine HD.out.mono ?_
    rintro e w2 ⟨kd, A2, c2, xs, rfl, hO2, -, hl2, -, hR2, hG2⟩
    have hI2 := OwnI.ints hO2
    obtain ⟨-, hI2⟩ := hI2
    have HI2 := Lib.hid hI2
    have hl24 := dtx_len kd xs
    have HF := Lib.hid (And.intro hR2 (HG1.out.trans hG2))
    have hs2 := hG2.size
    clear hI2 hO2 hR2 hG2
    go_wp2_with fail
    refine (sDeedText_any kd A2 c2 xs w2 HI2.out (by omega)).mono ?_
    rintro e w3 ⟨rfl, hx3⟩
    go_wp2_with fail
    go_ret
    exact ⟨_, rfl, by omega, (HF.out.1.ext hx3 (by omega)).le (by omega), HF.out.2.on hx3⟩
/-- what DrawDeskLine hands back -/
def DrawnLn (w : World) (e : Ending) (w' : World) : Prop :=
  ∃ A c Bp d D L T, e = .returned (.tuple #[.agg #[.slice A (List.length D) c, .slice Bp (List.length L) d], tx T]) ∧ Mat w' A c D ∧ MatS w' Bp d L ∧ T.length ≤ 200 ∧ Ext w w'
end Go.Proofs.YtnalcgcdohlfiaaGreatDoor
