/- What is proved: contracts and plain laws for what the later texts lean on (Rd, Rd2, Obj, DrFar, DrSpc, Cat, DrTree, Open, DrWt). Conditions: those of each. -/
import Derived.Test.YtnalcgcdohlfiaaGreatDoorPa
import Derived.StillTailTactics
namespace Go.Proofs.YtnalcgcdohlfiaaGreatDoor
open Go.RowKit

/-- a reader at the block g, p bytes on; its block and its bytes lie below B -/
def Rd (w : World) (B g : Nat) (p : Int) : Prop :=
  ∃ (Ab : Option Addr) (n cb bk o : Nat), (0 < n → Ab = some ⟨bk, o, none⟩) ∧ n ≤ 2000 ∧ n ≤ cb ∧ cb ≤ maxLen ∧ w.heap[g]? = some (.cells #[.slice Ab n cb, .int .i64 p] 49 (0, 0)) ∧ ((0 < n → bk ≠ g ∧ bk < B) ∧ g < B) ∧ 0 ≤ p ∧ p ≤ 1000000 ∧
    ∀ k, k < n → ∃ x : Int, w.cell? ⟨bk, o + k, none⟩ = some (.int .u8 x) ∧ 0 ≤ x ∧ x ≤ 255

theorem cell_of_heap {w w' : World} {b o : Nat} (h : w'.heap[b]? = w.heap[b]?) : w'.cell? ⟨b, o, none⟩ = w.cell? ⟨b, o, none⟩ := by
  simp [World.cell?, h]
theorem rd_heap {w : World} {g : Nat} {a b u : Value} {T : TypeId} (hb : w.heap[g]? = some (.cells #[a, b] T (0, 0))) : (w.setCell ⟨g, 1, none⟩ u).heap[g]? = some (.cells #[a, u] T (0, 0)) := by
  simp [World.setCell, Array.getElem?_modify, hb]
theorem Rd.drewN {w : World} {B g : Nat} {p : Int} (h : Rd w B g p) (m : Nat) : Rd (w.drewN m) B g p := h
theorem Rd.keep {w w' : World} {B g : Nat} {p : Int} (h : Rd w B g p) (k : ∀ b, b < B → w'.heap[b]? = w.heap[b]?) : Rd w' B g p := by
  obtain ⟨Ab, n, cb, bk, o, hA, hn, hcb, hmx, hb, hne, hp0, hp1, hx⟩ := h
  refine ⟨Ab, n, cb, bk, o, hA, hn, hcb, hmx, (k g hne.2).trans hb, hne, hp0, hp1, fun j hj => ?_⟩
  obtain ⟨x, hc, h0, h1⟩ := hx j hj
  exact ⟨x, (cell_of_heap (k bk (hne.1 (by omega)).2)).trans hc, h0, h1⟩
theorem Rd.lt {w : World} {B g : Nat} {p : Int} (h : Rd w B g p) : g < B := by
  obtain ⟨_, _, _, _, _, _, _, _, _, _, hne, _⟩ := h
  exact hne.2

theorem xor_bd {a b : Int} (a0 : 0 ≤ a) (a1 : a < 1099511627776) (b0 : 0 ≤ b) (b1 : b < 1099511627776) : 0 ≤ bits .xor .i64 a b ∧ bits .xor .i64 a b < 1099511627776 := by
  obtain ⟨A, rfl⟩ : ∃ A : Nat, a = A := ⟨a.toNat, by omega⟩
  obtain ⟨B, rfl⟩ : ∃ B : Nat, b = B := ⟨b.toNat, by omega⟩
  have hA : (BitVec.ofInt 64 ((A : Nat) : Int)).toNat = A := by
    rw [BitVec.ofInt_natCast, BitVec.toNat_ofNat]; exact Nat.mod_eq_of_lt (by omega)
  have hB : (BitVec.ofInt 64 ((B : Nat) : Int)).toNat = B := by
    rw [BitVec.ofInt_natCast, BitVec.toNat_ofNat]; exact Nat.mod_eq_of_lt (by omega)
  have h : A ^^^ B < 2 ^ 40 := Nat.xor_lt_two_pow (by omega) (by omega)
  have e : bits .xor .i64 ((A : Nat) : Int) ((B : Nat) : Int) = ((A ^^^ B : Nat) : Int) := by
    show IntKind.i64.wrap ((BitVec.ofInt 64 ((A : Nat) : Int) ^^^ BitVec.ofInt 64 ((B : Nat) : Int)).toNat : Int) = _
    rw [BitVec.toNat_xor, hA, hB, IntKind.wrap_i64]
    omega
  rw [e]
  omega

set_option maxRecDepth 100000 in
set_option maxHeartbeats 4000000 in
theorem pick_any (B g : Nat) (p m : Int) (w : World) (h : Rd w B g p) (hp : p < 1000000) (hm : m ≤ 1000) (hm0 : -1000 ≤ m) :
    Calls Tryz.prog 15 #[.pointer (some ⟨g, 0, none⟩), .int .i64 m] w fun e w' => ∃ v : Int, e = .returned (.int .i64 v) ∧ 0 ≤ v ∧ (v < m ∨ v = 0) ∧ Rd w' B g (p + 1) ∧ Only (fun k => k = g) w w' := by
  obtain ⟨Ab, n, cb, bk, o, hA, hn, hcb, hmx, hb, hne, hp0, hp1, hx⟩ := h
  unfold maxLen at hmx
  have c0 := cell_cells hb 0
  have c1 := cell_cells hb 1
  have f1 := frozen_cells hb 1
  simp only [List.getElem?_toArray, List.getElem?_cons_zero, List.getElem?_cons_succ] at c0 c1
  have hb2 := rd_heap (u := .int .i64 (p + 1)) hb
  have hoth : ∀ k, k ≠ g → (w.setCell ⟨g, 1, none⟩ (.int .i64 (p + 1))).heap[k]? = w.heap[k]? := fun k hk => Below.heap_setCell _ _ _ _ hk
  have d0 := cell_cells hb2 0
  have d1 := cell_cells hb2 1
  simp only [List.getElem?_toArray, List.getElem?_cons_zero, List.getElem?_cons_succ] at d0 d1
  have hx2 : ∀ k, k < n → ∃ x : Int, (w.setCell ⟨g, 1, none⟩ (.int .i64 (p + 1))).cell? ⟨bk, o + k, none⟩ = some (.int .u8 x) ∧ 0 ≤ x ∧ x ≤ 255 := fun k hk => by
    rw [cell_of_heap (hoth bk (hne.1 (by omega)).1)]; exact hx k hk
  have HO := Lib.hid (show Only (fun k => k = g) w (w.setCell ⟨g, 1, none⟩ (.int .i64 (p + 1))) from Only.set (S := fun k => k = g) w (p := ⟨g, 1, none⟩) rfl _)
  have HX := Lib.hid hx2
  have HR := Lib.hid (show Rd (w.setCell ⟨g, 1, none⟩ (.int .i64 (p + 1))) B g (p + 1) from ⟨Ab, n, cb, bk, o, hA, hn, hcb, by unfold maxLen; omega, hb2, hne, by omega, by omega, hx2⟩)
  have HA := Lib.hid hA
  clear hx hb hoth hx2 hb2 hA hne
  by_cases hm1 : m < 1
  · go_enter Tryz.func15, Tryz.ntmps15
    go_wp2
    go_ret
    exact ⟨0, rfl, Int.le_refl _, .inr rfl, HR.out, HO.out⟩
  by_cases hn0 : n = 0
  · subst hn0
    go_enter Tryz.func15, Tryz.ntmps15
    go_wp2
    go_ret
    exact ⟨0, rfl, Int.le_refl _, .inr rfl, HR.out, HO.out⟩
  obtain rfl := HA.out (by omega)
  have hnp : 0 < n := by omega
  have hn0' : ¬ ((n : Int) = 0) := by omega
  have hd : ((n : Int) == 0) = false := beq_eq_false_iff_ne.2 hn0'
  have hd2 : decide (m < 1) = false := decide_eq_false hm1
  clear hn0
  by_cases hpn : p < n
  · obtain ⟨x, hc, x0, x1⟩ := HX.out p.toNat (by omega)
    have HE := Lib.hid (show x.tmod m = x % m ∧ 0 ≤ x % m ∧ x % m < m from ⟨Int.tmod_eq_emod_of_nonneg x0, Int.emod_nonneg _ (by omega), Int.emod_lt_of_pos _ (by omega)⟩)
    go_enter Tryz.func15, Tryz.ntmps15
    go_wp2
    go_ret
    exact ⟨x % m, rfl, HE.out.2.1, .inl HE.out.2.2, HR.out, HO.out⟩
  · obtain ⟨q0, q1⟩ : 0 ≤ p % n ∧ p % n < n := ⟨Int.emod_nonneg _ hn0', Int.emod_lt_of_pos _ (by omega)⟩
    obtain ⟨r0, r1⟩ : 0 ≤ (p * 7 + 3) % n ∧ (p * 7 + 3) % n < n := ⟨Int.emod_nonneg _ hn0', Int.emod_lt_of_pos _ (by omega)⟩
    obtain ⟨x, hc, x0, x1⟩ := HX.out (p % n).toNat (by omega)
    obtain ⟨y, hy, y0, y1⟩ := HX.out ((p * 7 + 3) % n).toNat (by omega)
    obtain ⟨z0, z1⟩ : 0 ≤ p / n ∧ p / n ≤ 1000000 := ⟨Int.ediv_nonneg hp0 (by omega), by have := Int.ediv_le_self (n : Int) hp0; omega⟩
    go_enter Tryz.func15, Tryz.ntmps15
    go_wp2
    go_quiet (fail)
    obtain ⟨X, hX⟩ : ∃ X, x * 131 + y * 1117 + p * 29 + p / n * 53 = X := ⟨_, rfl⟩
    have X0 : 0 ≤ X ∧ X ≤ 1000000000 := by omega
    obtain ⟨V0, V1⟩ := xor_bd (a := X) (b := X / 64) (by omega) (by omega) (by omega) (by omega)
    obtain ⟨V, hV⟩ : ∃ V, bits .xor .i64 X (X / 64) = V := ⟨_, rfl⟩
    rw [hV] at V0 V1
    have HE := Lib.hid (show 0 ≤ V % m ∧ V % m < m from ⟨Int.emod_nonneg _ (by omega), Int.emod_lt_of_pos _ (by omega)⟩)
    rw [hX]
    obtain ⟨X2, X3⟩ := X0
    clear hX hc hy x0 x1 y0 y1 z0 z1 q0 q1 r0 r1
    go_wp2
    go_ret
    exact ⟨V % m, rfl, HE.out.1, .inl HE.out.2, HR.out.drewN _, HO.out⟩
end Go.Proofs.YtnalcgcdohlfiaaGreatDoor
namespace Go.Proofs.YtnalcgcdohlfiaaGreatDoor
open Go.RowKit
theorem Only.refl' (S : Nat → Prop) (w : World) : Only S w w := ⟨rfl, rfl, rfl, rfl, fun _ _ => rfl⟩
set_option maxHeartbeats 1000000 in
theorem odd_any (B g : Nat) (p m : Int) (w : World) (h : Rd w B g p) (hp : p < 1000000) (hm : m ≤ 1000) (hm0 : -1000 ≤ m) :
    Calls Tryz.prog 17 #[.pointer (some ⟨g, 0, none⟩), .int .i64 m] w fun e w' => ∃ b p', e = .returned (.bool b) ∧ p ≤ p' ∧ p' ≤ p + 1 ∧ Rd w' B g p' ∧ Only (fun k => k = g) w w' := by
  have HP := Lib.hid (pick_any B g p m w h hp hm hm0)
  have HR := Lib.hid h
  clear h
  by_cases h0 : 0 < m
  · go_enter Tryz.func17, Tryz.ntmps17
    go_wp2_with fail
    refine HP.out.mono ?_
    rintro e w1 ⟨v, rfl, v0, v1, hR, hO⟩
    have HR1 := Lib.hid hR
    have HO1 := Lib.hid hO
    clear hR hO
    go_wp2
    go_ret
    exact ⟨_, p + 1, rfl, by omega, Int.le_refl _, HR1.out, HO1.out⟩
  · go_enter Tryz.func17, Tryz.ntmps17
    go_wp2
    go_ret
    exact ⟨.inl rfl, p, Int.le_refl _, by omega, HR.out, Only.refl' _ _⟩
/-- a reader at most u bytes on -/
def RdU (w : World) (B g : Nat) (u : Int) : Prop := ∃ p, p ≤ u ∧ Rd w B g p
theorem RdU.keep {w w' : World} {B g : Nat} {u : Int} (h : RdU w B g u) (k : ∀ b, b < B → w'.heap[b]? = w.heap[b]?) : RdU w' B g u := by
  obtain ⟨p, hp, hr⟩ := h
  exact ⟨p, hp, hr.keep k⟩
theorem RdU.le {w : World} {B g : Nat} {u u' : Int} (h : RdU w B g u) (k : u ≤ u') : RdU w B g u' := by
  obtain ⟨p, hp, hr⟩ := h
  exact ⟨p, by omega, hr⟩
theorem RdU.lt {w : World} {B g : Nat} {u : Int} (h : RdU w B g u) : g < B := by
  obtain ⟨p, hp, hr⟩ := h
  exact hr.lt
theorem pickU {w : World} {B g : Nat} {u : Int} (h : RdU w B g u) (m : Int) (hu : u < 1000000) (hm : m ≤ 1000) (hm0 : -1000 ≤ m) :
    Calls Tryz.prog 15 #[.pointer (some ⟨g, 0, none⟩), .int .i64 m] w fun e w' => ∃ v : Int, e = .returned (.int .i64 v) ∧ 0 ≤ v ∧ (v < m ∨ v = 0) ∧ RdU w' B g (u + 1) ∧ Only (fun k => k = g) w w' := by
  obtain ⟨p, hp, hr⟩ := h
  refine (pick_any B g p m w hr (by omega) hm hm0).mono ?_
  rintro e w' ⟨v, he, h0, h1, h2, h3⟩
  exact ⟨v, he, h0, h1, ⟨_, by omega, h2⟩, h3⟩
theorem oddU {w : World} {B g : Nat} {u : Int} (h : RdU w B g u) (m : Int) (hu : u < 1000000) (hm : m ≤ 1000) (hm0 : -1000 ≤ m) :
    Calls Tryz.prog 17 #[.pointer (some ⟨g, 0, none⟩), .int .i64 m] w fun e w' => ∃ b, e = .returned (.bool b) ∧ RdU w' B g (u + 1) ∧ Only (fun k => k = g) w w' := by
  obtain ⟨p, hp, hr⟩ := h
  refine (odd_any B g p m w hr (by omega) hm hm0).mono ?_
  rintro e w' ⟨b, p', he, h0, h1, h2, h3⟩
  exact ⟨b, he, ⟨p', by omega, h2⟩, h3⟩
end Go.Proofs.YtnalcgcdohlfiaaGreatDoor
namespace Go.Proofs.YtnalcgcdohlfiaaGreatDoor
open Go.RowKit

/-- nothing that was there has turned but the block g -/
def ExtG (g : Nat) (w w' : World) : Prop := w'.os = w.os ∧ w'.tape = w.tape ∧ w'.output = w.output ∧ w.heap.size ≤ w'.heap.size ∧ ∀ k, k < w.heap.size → k ≠ g → w'.heap[k]? = w.heap[k]?
theorem ExtG.refl (g : Nat) (w : World) : ExtG g w w := ⟨rfl, rfl, rfl, Nat.le_refl _, fun _ _ _ => rfl⟩
theorem ExtG.trans {g : Nat} {a b c : World} (h : ExtG g a b) (k : ExtG g b c) : ExtG g a c :=
  ⟨k.1.trans h.1, k.2.1.trans h.2.1, k.2.2.1.trans h.2.2.1, Nat.le_trans h.2.2.2.1 k.2.2.2.1, fun i hi hne => (k.2.2.2.2 i (Nat.lt_of_lt_of_le hi h.2.2.2.1) hne).trans (h.2.2.2.2 i hi hne)⟩
theorem ExtG.size {g : Nat} {a b : World} (h : ExtG g a b) : a.heap.size ≤ b.heap.size := h.2.2.2.1
theorem Ext.toG {a b : World} (h : Ext a b) (g : Nat) : ExtG g a b := ⟨Below.os h, Below.tape h, Below.output h, h.size, fun i hi _ => Below.block h i hi⟩
theorem below_toG {B : Nat} {a b : World} (h : Below B a b) (g : Nat) {a0 : World} (k : ExtG g a0 a) (hB : a0.heap.size ≤ B) : ExtG g a0 b :=
  ⟨h.os.trans k.1, h.tape.trans k.2.1, h.output.trans k.2.2.1, Nat.le_trans k.size h.size, fun i hi hne => (h.block i (by omega)).trans (k.2.2.2.2 i hi hne)⟩
theorem Only.toG {g : Nat} {a b : World} (h : Only (fun k => k = g) a b) : ExtG g a b := ⟨h.1, h.2.1, h.2.2.1, Nat.le_of_eq h.2.2.2.1.symm, fun i _ hne => h.2.2.2.2 i hne⟩
theorem ExtG.ext {g : Nat} {w0 a b : World} (h : ExtG g a b) (k : Ext w0 a) (hg : w0.heap.size ≤ g) : Ext w0 b :=
  ⟨h.1.trans (Below.os k), h.2.1.trans (Below.tape k), h.2.2.1.trans (Below.output k), Nat.le_trans k.size h.size, fun i hi => (h.2.2.2.2 i (by have := k.size; omega) (by omega)).trans (Below.block k i hi)⟩
theorem ExtG.set {g : Nat} {a b : World} (h : ExtG g a b) {p : Addr} (hp : a.heap.size ≤ p.block) (u : Value) : ExtG g a (b.setCell p u) :=
  ⟨h.1, h.2.1, h.2.2.1, by have := h.size; simpa [World.setCell] using this, fun i hi hne => (Below.heap_setCell _ _ _ _ (by omega)).trans (h.2.2.2.2 i hi hne)⟩
theorem ExtG.drewN {g : Nat} {a b : World} (h : ExtG g a b) (m : Nat) : ExtG g a (b.drewN m) := h
theorem ExtG.alloc {g : Nat} {a b : World} (h : ExtG g a b) (o : Obj) : ExtG g a (b.alloc o) := h.trans ((Ext.alloc b o).toG g)
theorem ExtG.on {g : Nat} {a b c : World} (h : ExtG g a b) (k : Ext b c) : ExtG g a c := h.trans (k.toG g)
theorem ExtG.rd {g : Nat} {a b c : World} (h : ExtG g a b) (k : Only (fun x => x = g) b c) : ExtG g a c := h.trans k.toG

/-- rows that a call has made for itself, all in blocks from base on, to be turned in place -/
def ObjM (base : Nat) (w : World) (A : Option Addr) (c : Nat) (D : List (List Int)) (V : Nat → Value) : Prop :=
  D.length ≤ c ∧ c ≤ maxLen ∧ (0 < D.length → ∃ b cs, A = some ⟨b, 0, none⟩ ∧ base ≤ b ∧ w.heap[b]? = some (.cells cs 47 (0, 0)) ∧ ∀ i, i < D.length → cs[i]? = some (V i)) ∧
    (∀ i, i < D.length → Leaf w (V i) (row D i)) ∧ Dis D.length V ∧ (∀ i, i < D.length → ∀ g ∈ lb (V i), base ≤ g)
theorem ObjM.keep {base : Nat} {w w' : World} {A : Option Addr} {c : Nat} {D : List (List Int)} {V : Nat → Value} (h : ObjM base w A c D V) (k : ∀ q, base ≤ q → q < w.heap.size → w'.heap[q]? = w.heap[q]?) : ObjM base w' A c D V := by
  obtain ⟨h1, h2, h3, h4, h5, h6⟩ := h
  refine ⟨h1, h2, fun h0 => ?_, fun i hi => (h4 i hi).keep fun g hg => k g (h6 i hi g hg) ((h4 i hi).lt hg), h5, h6⟩
  obtain ⟨b, cs, e, hb, hh, hc⟩ := h3 h0
  exact ⟨b, cs, e, hb, (k b hb (heap_lt hh)).trans hh, hc⟩
theorem ObjM.ext {base : Nat} {w w' : World} {A : Option Addr} {c : Nat} {D : List (List Int)} {V : Nat → Value} (h : ObjM base w A c D V) (k : Ext w w') : ObjM base w' A c D V :=
  h.keep fun _ _ hq => k.block hq
theorem ObjM.g {base : Nat} {w w' : World} {A : Option Addr} {c : Nat} {D : List (List Int)} {V : Nat → Value} {g : Nat} (h : ObjM base w A c D V) (k : ExtG g w w') (hg : g < base) : ObjM base w' A c D V :=
  h.keep fun q hb hq => k.2.2.2.2 q hq (by omega)
theorem ObjM.rd {base : Nat} {w w' : World} {A : Option Addr} {c : Nat} {D : List (List Int)} {V : Nat → Value} {g : Nat} (h : ObjM base w A c D V) (k : Only (fun x => x = g) w w') (hg : g < base) : ObjM base w' A c D V :=
  h.g k.toG hg
theorem ObjM.mono {base b' : Nat} {w : World} {A : Option Addr} {c : Nat} {D : List (List Int)} {V : Nat → Value} (h : ObjM base w A c D V) (k : b' ≤ base) : ObjM b' w A c D V := by
  obtain ⟨h1, h2, h3, h4, h5, h6⟩ := h
  refine ⟨h1, h2, fun h0 => ?_, h4, h5, fun i hi g hg => by have := h6 i hi g hg; omega⟩
  obtain ⟨b, cs, e, hb, hh⟩ := h3 h0
  exact ⟨b, cs, e, by omega, hh⟩
theorem ObjM.mat {base : Nat} {w : World} {A : Option Addr} {c : Nat} {D : List (List Int)} {V : Nat → Value} (h : ObjM base w A c D V) : Mat w A c D := by
  obtain ⟨h1, h2, h3, h4, h5, h6⟩ := h
  by_cases h0 : 0 < D.length
  · obtain ⟨b, cs, e, hb, hh, hc⟩ := h3 h0
    refine ⟨h1, h2, b, 0, fun _ => e, fun i hi => ?_⟩
    obtain ⟨Ar, cr, hv, hI⟩ := (h4 i hi).ints
    exact ⟨Ar, cr, by rw [Nat.zero_add, cell_cells hh, hc i hi, hv], hI⟩
  · exact ⟨h1, h2, 0, 0, fun h => absurd h h0, fun i hi => absurd hi (by omega)⟩
theorem ObjM.nil (base : Nat) (w : World) (A : Option Addr) (c : Nat) (hc : c ≤ maxLen) (V : Nat → Value) : ObjM base w A c [] V :=
  ⟨Nat.zero_le _, hc, fun h => absurd h (by simp), fun i hi => absurd hi (by simp), fun i j hi => absurd hi (by simp), fun i hi => absurd hi (by simp)⟩
theorem AccM.obj {w0 W : World} {v : Value} {D : List (List Int)} {V : Nat → Value} (h : AccM w0 W v D V) : ∃ A c, v = .slice A D.length c ∧ ObjM w0.heap.size W A c D V := by
  obtain ⟨⟨hx, hl, ho⟩, h2, h3, h4⟩ := h
  rcases ho with ⟨rfl, h0⟩ | ⟨g, cap, cur, rfl, hb, hg, hc, hm, hs, ht⟩
  · have : D.length = 0 := by simpa using h0
    have : D = [] := List.eq_nil_of_length_eq_zero this
    subst this
    exact ⟨none, 0, rfl, ObjM.nil _ _ _ _ (Nat.zero_le _) _⟩
  · simp only [List.length_map, List.length_range, Nat.mul_one] at hc ht
    refine ⟨some ⟨g, 0, none⟩, cap, by simp, hc, hm, fun _ => ⟨g, cur, rfl, hb, hg, fun i hi => ?_⟩, h2, h3, h4⟩
    have e : (cur.toList.take D.length)[i]? = ((List.range D.length).map V)[i]? := by rw [ht]
    rw [List.getElem?_take, if_pos hi] at e
    rw [← Array.getElem?_toList, e]
    simp [hi]
theorem ObjM.head {base : Nat} {w : World} {A : Option Addr} {c : Nat} {D : List (List Int)} {V : Nat → Value} (h : ObjM base w A c D V) (h0 : 0 < D.length) : ∃ b, A = some ⟨b, 0, none⟩ := by
  obtain ⟨b, cs, e, _⟩ := h.2.2.1 h0
  exact ⟨b, e⟩
/-- row i of D turned -/
theorem row_set {D : List (List Int)} {i k : Nat} {r : List Int} (hi : i < D.length) : row (D.set i r) k = if k = i then r else row D k := by
  unfold row
  by_cases e : k = i
  · subst e; simp [List.getD, hi]
  · rw [if_neg e]; simp [List.getD, Ne.symm e]
theorem ix_set {xs : List Int} {j k : Nat} {x : Int} (hj : j < xs.length) : ix (xs.set j x) k = if k = j then x else ix xs k := by
  unfold ix
  by_cases e : k = j
  · subst e; simp [List.getD, hj]
  · rw [if_neg e]; simp [List.getD, Ne.symm e]
/-- one number turned -/
def set2 (D : List (List Int)) (i j : Nat) (x : Int) : List (List Int) := D.set i ((row D i).set j x)
theorem set2_len (D : List (List Int)) (i j : Nat) (x : Int) : (set2 D i j x).length = D.length := by simp [set2]
theorem set2_row {D : List (List Int)} {i j : Nat} (hi : i < D.length) (x : Int) (k : Nat) : (row (set2 D i j x) k).length = (row D k).length := by
  unfold set2
  rw [row_set hi]
  split
  · rename_i e; subst e; simp
  · rfl
theorem set2_at {D : List (List Int)} {i j : Nat} (hi : i < D.length) (hj : j < (row D i).length) (x : Int) (k l : Nat) : at2 (set2 D i j x) k l = if k = i ∧ l = j then x else at2 D k l := by
  unfold at2 set2
  rw [row_set hi]
  by_cases e : k = i
  · subst e
    rw [if_pos rfl, ix_set hj]
    by_cases e2 : l = j
    · simp [e2]
    · simp [e2]
  · simp [e]
theorem Sq.set2 {D : List (List Int)} {i j : Nat} (h : Sq D) (hi : i < D.length) (x : Int) : Sq (set2 D i j x) := fun k hk => by
  rw [set2_len] at hk ⊢
  rw [set2_row hi]
  exact h k hk
/-- all numbers lie between a and b -/
def Bd (a b : Int) (D : List (List Int)) : Prop := ∀ i, i < D.length → ∀ j, j < (row D i).length → a ≤ at2 D i j ∧ at2 D i j ≤ b
theorem Bd.set2 {a b : Int} {D : List (List Int)} {i j : Nat} (h : Bd a b D) (hi : i < D.length) (hj : j < (row D i).length) {x : Int} (h0 : a ≤ x) (h1 : x ≤ b) : Bd a b (set2 D i j x) := fun k hk l hl => by
  rw [set2_len] at hk
  rw [set2_row hi] at hl
  rw [set2_at hi hj]
  split
  · exact ⟨h0, h1⟩
  · exact h k hk l hl
theorem Bd.mono {a b a' b' : Int} {D : List (List Int)} (h : Bd a b D) (ha : a' ≤ a) (hb : b ≤ b') : Bd a' b' D := fun k hk l hl => by
  have := h k hk l hl; omega

theorem ObjM.row {base b : Nat} {w : World} {c : Nat} {D : List (List Int)} {V : Nat → Value} (h : ObjM base w (some ⟨b, 0, none⟩) c D V) {i : Nat} (hi : i < D.length) :
    ∃ Ar cr, V i = .slice Ar (row D i).length cr ∧ w.cell? ⟨b, i, none⟩ = some (.slice Ar (row D i).length cr) ∧ w.frozen? ⟨b, i, none⟩ = false ∧ base ≤ b ∧ b < w.heap.size ∧ (row D i).length ≤ cr ∧ cr ≤ maxLen := by
  obtain ⟨h1, h2, h3, h4, h5, h6⟩ := h
  obtain ⟨b', cs, e, hb, hh, hc⟩ := h3 (by omega)
  injection e with e; injection e with e; subst e
  obtain ⟨Ar, cr, hv, hI⟩ := (h4 i hi).ints
  exact ⟨Ar, cr, hv, by rw [cell_cells hh, hc i hi, hv], frozen_cells hh i, hb, heap_lt hh, hI.1, hI.2.1⟩
theorem Leaf.put {w : World} {q cr j : Nat} {xs : List Int} {x : Int} (h : Leaf w (.slice (some ⟨q, 0, none⟩) xs.length cr) xs) (hj : j < xs.length) :
    Leaf (w.setCell ⟨q, j, none⟩ (.int .i64 x)) (.slice (some ⟨q, 0, none⟩) xs.length cr) (xs.set j x) := by
  obtain ⟨A, c', e, h1, h2, h3⟩ := h
  injection e with e1 e2 e3
  subst e1; subst e3
  obtain ⟨g', cs, ea, hb, hc⟩ := h3 (by omega)
  injection ea with ea; injection ea with ea; subst ea
  refine ⟨_, _, by rw [List.length_set], by rw [List.length_set]; exact h1, h2, fun _ => ⟨q, cs.setIfInBounds j (.int .i64 x), rfl, ?_, fun k hk => ?_⟩⟩
  · simp [World.setCell, Array.getElem?_modify, hb]
  · rw [List.length_set] at hk
    have hsz : j < cs.size := (Array.getElem?_eq_some_iff.1 (hc j hj)).1
    rw [ix_set hj, Array.getElem?_setIfInBounds]
    by_cases e : j = k
    · subst e; simp [hsz]
    · rw [if_neg e, if_neg (Ne.symm e), hc k hk]
theorem ObjM.num {base b : Nat} {w : World} {c : Nat} {D : List (List Int)} {V : Nat → Value} (h : ObjM base w (some ⟨b, 0, none⟩) c D V) {i j : Nat} (hi : i < D.length) (hj : j < (Go.Proofs.YtnalcgcdohlfiaaGreatDoor.row D i).length) :
    ∃ q cr, w.cell? ⟨b, i, none⟩ = some (.slice (some ⟨q, 0, none⟩) (Go.Proofs.YtnalcgcdohlfiaaGreatDoor.row D i).length cr) ∧ (Go.Proofs.YtnalcgcdohlfiaaGreatDoor.row D i).length ≤ cr ∧ cr ≤ maxLen ∧ w.cell? ⟨q, j, none⟩ = some (.int .i64 (at2 D i j)) ∧ w.frozen? ⟨q, j, none⟩ = false ∧ base ≤ q ∧ q < w.heap.size ∧
      ∀ x, ObjM base (w.setCell ⟨q, j, none⟩ (.int .i64 x)) (some ⟨b, 0, none⟩) c (set2 D i j x) V := by
  have hrow := h.row hi
  obtain ⟨h1, h2, h3, h4, h5, h6⟩ := h
  obtain ⟨b', cs, e, hb, hh, hc⟩ := h3 (by omega)
  injection e with e; injection e with e; subst e
  obtain ⟨Ar, cr, hv, hcell, -, -, -, hl1, hl2⟩ := hrow
  obtain ⟨A', c', e, k1, k2, k3⟩ := h4 i hi
  obtain ⟨q, cs2, rfl, hq, hcs⟩ := k3 (by omega)
  rw [hv] at e
  injection e with e1 e2 e3
  subst e1; subst e3
  have hlb : q ∈ lb (V i) := by
    rw [hv]
    obtain ⟨n, hn⟩ : ∃ n, (Go.Proofs.YtnalcgcdohlfiaaGreatDoor.row D i).length = n + 1 := ⟨(Go.Proofs.YtnalcgcdohlfiaaGreatDoor.row D i).length - 1, by omega⟩
    rw [hn]; simp [lb]
  have hbq : b ≠ q := fun e => by
    subst e
    rw [hh] at hq
    injection hq with hq; injection hq with _ ht
    exact absurd ht (by decide)
  refine ⟨q, _, hcell, hl1, hl2, by rw [cell_cells hq, hcs j hj]; rfl, frozen_cells hq j, h6 i hi q hlb, heap_lt hq, fun x => ?_⟩
  refine ⟨by rw [set2_len]; exact h1, h2, fun _ => ⟨b, cs, rfl, hb, (Below.heap_setCell _ _ _ _ hbq).trans hh, fun k hk => hc k (by rw [set2_len] at hk; exact hk)⟩, fun k hk => ?_, by rw [set2_len]; exact h5, fun k hk => h6 k (by rw [set2_len] at hk; exact hk)⟩
  rw [set2_len] at hk
  unfold set2
  rw [row_set hi]
  by_cases e : k = i
  · subst e
    rw [if_pos rfl, hv]
    have hL := h4 k hi
    rw [hv] at hL
    exact hL.put hj
  · rw [if_neg e]
    exact (h4 k hk).keep fun g hg => Below.heap_setCell _ _ _ _ fun e2 => by
      have e3 : g = q := e2
      subst e3
      exact h5 k i hk hi e g hg hlb

/-- the world cut off above base -/
def cutW (w : World) (base : Nat) : World := { w with heap := w.heap.extract 0 base }
theorem cut_size {w : World} {base : Nat} (h : base ≤ w.heap.size) : (cutW w base).heap.size = base := by simp [cutW]; omega
theorem cut_ext {w : World} {base : Nat} (h : base ≤ w.heap.size) : Ext (cutW w base) w :=
  ⟨rfl, rfl, rfl, by rw [cut_size h]; exact h, fun k hk => by
    rw [cut_size h] at hk
    simp only [cutW, Array.getElem?_extract]
    rw [if_pos (by omega)]
    simp⟩
theorem ExtG.cut {g base : Nat} {a b c : World} (h : ExtG g a b) (k : Ext (cutW b base) c) (hb : base ≤ b.heap.size) (ha : a.heap.size ≤ base) : ExtG g a c := by
  refine ⟨(Below.os k).trans h.1, (Below.tape k).trans h.2.1, (Below.output k).trans h.2.2.1, ?_, fun i hi hne => ?_⟩
  · have := k.size; rw [cut_size hb] at this; omega
  · have h1 := Below.block k i (by rw [cut_size hb]; omega)
    have h2 := (Below.block (cut_ext hb) i (by rw [cut_size hb]; omega))
    exact (h1.trans h2.symm).trans (h.2.2.2.2 i hi hne)
theorem RdU.cut {B g : Nat} {u : Int} {base : Nat} {b c : World} (h : RdU b B g u) (k : Ext (cutW b base) c) (hb : base ≤ b.heap.size) (hB : B ≤ base) : RdU c B g u :=
  h.keep fun i hi => ((Below.block k i (by rw [cut_size hb]; omega)).trans (Below.block (cut_ext hb) i (by rw [cut_size hb]; omega)).symm)
theorem RdU.ext {B g : Nat} {u : Int} {b c : World} (h : RdU b B g u) (k : Ext b c) (hB : B ≤ b.heap.size) : RdU c B g u :=
  h.keep fun i hi => Below.block k i (by omega)
theorem RdU.set {B g : Nat} {u : Int} {b : World} (h : RdU b B g u) {p : Addr} (hp : B ≤ p.block) (x : Value) : RdU (b.setCell p x) B g u :=
  h.keep fun i hi => Below.heap_setCell _ _ _ _ (by omega)
/-- an accumulated slice with its own beginning: rebased after the reader has turned -/
theorem Acc.rebase {w0 W W' : World} {E : TypeId} {v : Value} {xs : List Value} (h : Acc w0 W E v xs) (k : ∀ q, w0.heap.size ≤ q → q < W.heap.size → W'.heap[q]? = W.heap[q]?) (hs : w0.heap.size ≤ W'.heap.size) : Acc (cutW W' w0.heap.size) W' E v xs := by
  obtain ⟨h1, h2, h3⟩ := h
  refine ⟨cut_ext hs, h2, ?_⟩
  rw [cut_size hs]
  rcases h3 with h3 | ⟨g, cap, cur, e1, e2, e3, e4⟩
  · exact .inl h3
  · exact .inr ⟨g, cap, cur, e1, e2, (k g e2 (heap_lt e3)).trans e3, e4⟩
/-- a square of one's own laid open -/
theorem ObjM.sq {base b : Nat} {w : World} {c : Nat} {D : List (List Int)} {V : Nat → Value} (h : ObjM base w (some ⟨b, 0, none⟩) c D V) (hs : Sq D) :
    ∃ q cr : Nat → Nat, ∀ i, i < D.length → w.cell? ⟨b, i, none⟩ = some (.slice (some ⟨q i, 0, none⟩) D.length (cr i)) ∧ D.length ≤ cr i ∧ cr i ≤ maxLen ∧ base ≤ q i ∧
      ∀ j, j < D.length → w.cell? ⟨q i, j, none⟩ = some (.int .i64 (at2 D i j)) ∧ w.frozen? ⟨q i, j, none⟩ = false ∧ ∀ x, ObjM base (w.setCell ⟨q i, j, none⟩ (.int .i64 x)) (some ⟨b, 0, none⟩) c (set2 D i j x) V := by
  have h' : ∀ i, i < D.length → ∃ y : Nat × Nat, w.cell? ⟨b, i, none⟩ = some (.slice (some ⟨y.1, 0, none⟩) D.length y.2) ∧ D.length ≤ y.2 ∧ y.2 ≤ maxLen ∧ base ≤ y.1 ∧
      ∀ j, j < D.length → w.cell? ⟨y.1, j, none⟩ = some (.int .i64 (at2 D i j)) ∧ w.frozen? ⟨y.1, j, none⟩ = false ∧ ∀ x, ObjM base (w.setCell ⟨y.1, j, none⟩ (.int .i64 x)) (some ⟨b, 0, none⟩) c (set2 D i j x) V := by
    intro i hi
    have hr := hs i hi
    obtain ⟨q, cr, k1, k2, k3, _, _, k4, _, _⟩ := h.num hi (j := 0) (by omega)
    rw [hr] at k1 k2
    refine ⟨(q, cr), k1, k2, k3, k4, fun j hj => ?_⟩
    obtain ⟨q2, cr2, m1, _, _, m4, m5, _, _, m6⟩ := h.num hi (j := j) (by omega)
    rw [hr] at m1
    have e := k1.symm.trans m1
    injection e with e; injection e with e1 e2 e3; injection e1 with e1; injection e1 with e1
    subst e1
    exact ⟨m4, m5, m6⟩
  obtain ⟨f, hf⟩ := pick h'
  exact ⟨fun i => (f i).1, fun i => (f i).2, hf⟩
/-- a store keeps a block's kind and size -/
theorem set_size {w : World} {q : Nat} {cs : Array Value} {t : TypeId} {fz : Nat × Nat} (h : w.heap[q]? = some (.cells cs t fz)) (b j : Nat) (x : Value) : ∃ cs', (w.setCell ⟨b, j, none⟩ x).heap[q]? = some (.cells cs' t fz) ∧ cs'.size = cs.size := by
  by_cases e : b = q
  · subst e
    refine ⟨cs.setIfInBounds j x, ?_, by simp⟩
    simp [World.setCell, Array.getElem?_modify, h]
  · exact ⟨cs, (Below.heap_setCell _ _ _ _ (Ne.symm e)).trans h, rfl⟩
/-- a row of n numbers that fills its block -/
def FullV (w : World) (u : Value) (n : Nat) : Prop := ∃ q cs, u = .slice (some ⟨q, 0, none⟩) n n ∧ w.heap[q]? = some (.cells cs 3 (0, 0)) ∧ cs.size = n
theorem FullV.set {w : World} {u : Value} {n : Nat} (h : FullV w u n) (b j : Nat) (x : Value) : FullV (w.setCell ⟨b, j, none⟩ x) u n := by
  obtain ⟨q, cs, e, hb, hn⟩ := h
  obtain ⟨cs', hb', hn'⟩ := set_size hb b j x
  exact ⟨q, cs', e, hb', by omega⟩
theorem FullV.keep {base : Nat} {w w' : World} {u : Value} {n : Nat} (h : FullV w u n) (hu : ∀ q, u.ownBlock = some q → base ≤ q) (k : ∀ q, base ≤ q → q < w.heap.size → w'.heap[q]? = w.heap[q]?) : FullV w' u n := by
  obtain ⟨q, cs, rfl, hb, hn⟩ := h
  exact ⟨q, cs, rfl, (k q (hu q rfl) (heap_lt hb)).trans hb, hn⟩
/-- rows of one's own, n numbers each, each filling its block -/
def ObjF (base : Nat) (w : World) (A : Option Addr) (c n : Nat) (D : List (List Int)) (V : Nat → Value) : Prop :=
  ObjM base w A c D V ∧ Sq D ∧ D.length = n ∧ (∀ i, i < n → FullV w (V i) n)
theorem ObjF.own {base : Nat} {w : World} {A : Option Addr} {c n : Nat} {D : List (List Int)} {V : Nat → Value} (h : ObjF base w A c n D V) {i : Nat} (hi : i < n) : ∀ q, (V i).ownBlock = some q → base ≤ q := by
  obtain ⟨q, cs, e, _⟩ := h.2.2.2 i hi
  intro q' hq'
  rw [e] at hq'
  simp [Value.ownBlock] at hq'
  subst hq'
  refine h.1.2.2.2.2.2 i (by rw [h.2.2.1]; exact hi) q ?_
  rw [e]
  obtain ⟨m, rfl⟩ : ∃ m, n = m + 1 := ⟨n - 1, by omega⟩
  simp [lb]
theorem ObjF.keep {base : Nat} {w w' : World} {A : Option Addr} {c n : Nat} {D : List (List Int)} {V : Nat → Value} (h : ObjF base w A c n D V) (k : ∀ q, base ≤ q → q < w.heap.size → w'.heap[q]? = w.heap[q]?) : ObjF base w' A c n D V :=
  ⟨h.1.keep k, h.2.1, h.2.2.1, fun i hi => (h.2.2.2 i hi).keep (h.own hi) k⟩
theorem ObjF.rd {base : Nat} {w w' : World} {A : Option Addr} {c n : Nat} {D : List (List Int)} {V : Nat → Value} {g : Nat} (h : ObjF base w A c n D V) (k : Only (fun x => x = g) w w') (hg : g < base) : ObjF base w' A c n D V :=
  h.keep fun q hb hq => k.2.2.2.2 q (by omega)
theorem ObjF.ext {base : Nat} {w w' : World} {A : Option Addr} {c n : Nat} {D : List (List Int)} {V : Nat → Value} (h : ObjF base w A c n D V) (k : Ext w w') : ObjF base w' A c n D V :=
  h.keep fun _ _ hq => k.block hq
theorem ObjF.head {base : Nat} {w : World} {A : Option Addr} {c n : Nat} {D : List (List Int)} {V : Nat → Value} (h : ObjF base w A c n D V) (h0 : 0 < n) : ∃ b, A = some ⟨b, 0, none⟩ := h.1.head (by rw [h.2.2.1]; exact h0)
theorem ObjF.sq {base b : Nat} {w : World} {c n : Nat} {D : List (List Int)} {V : Nat → Value} (h : ObjF base w (some ⟨b, 0, none⟩) c n D V) :
    ∃ q cr : Nat → Nat, ∀ i, i < n → w.cell? ⟨b, i, none⟩ = some (.slice (some ⟨q i, 0, none⟩) n (cr i)) ∧ n ≤ cr i ∧ cr i ≤ maxLen ∧ base ≤ q i ∧
      ∀ j, j < n → w.cell? ⟨q i, j, none⟩ = some (.int .i64 (at2 D i j)) ∧ w.frozen? ⟨q i, j, none⟩ = false ∧ ∀ x, ObjF base (w.setCell ⟨q i, j, none⟩ (.int .i64 x)) (some ⟨b, 0, none⟩) c n (set2 D i j x) V := by
  obtain ⟨h1, h2, rfl, h4⟩ := h
  obtain ⟨q, cr, hq⟩ := h1.sq h2
  refine ⟨q, cr, fun i hi => ?_⟩
  obtain ⟨a1, a2, a3, a4, a5⟩ := hq i hi
  refine ⟨a1, a2, a3, a4, fun j hj => ?_⟩
  obtain ⟨b1, b2, b3⟩ := a5 j hj
  exact ⟨b1, b2, fun x => ⟨b3 x, h2.set2 hi x, set2_len _ _ _ _, fun k hk => (h4 k hk).set _ _ _⟩⟩
/-- all numbers of a square of n lie between a and b -/
def BdN (a b : Int) (n : Nat) (D : List (List Int)) : Prop := ∀ i, i < n → ∀ j, j < n → a ≤ at2 D i j ∧ at2 D i j ≤ b
theorem BdN.set2 {a b : Int} {n : Nat} {D : List (List Int)} {i j : Nat} (h : BdN a b n D) (hs : Sq D) (hl : D.length = n) (hi : i < n) (hj : j < n) {x : Int} (h0 : a ≤ x) (h1 : x ≤ b) : BdN a b n (set2 D i j x) := fun k hk l hl' => by
  rw [set2_at (by omega) (by rw [hs i (by omega)]; omega)]
  split
  · exact ⟨h0, h1⟩
  · exact h k hk l hl'
end Go.Proofs.YtnalcgcdohlfiaaGreatDoor
namespace Go.Proofs.YtnalcgcdohlfiaaGreatDoor
open Go.RowKit
theorem ix_rep (n j : Nat) : ix (List.replicate n (0 : Int)) j = 0 := by
  unfold ix
  by_cases h : j < n
  · simp [List.getD, h]
  · simp [List.getD, List.getElem?_eq_none (show (List.replicate n (0 : Int)).length ≤ j by simp; omega)]
theorem zero_leaf (W : World) (n : Nat) (hn : n ≤ 1000) : Leaf (W.alloc (.cells (madeCells #[.int .i64 0] n) 3)) (.slice (some ⟨W.heap.size, 0, none⟩) n n) (List.replicate n (0 : Int)) :=
  Leaf.of_row ((World.rowIs_made W (.int .i64 0) n 3).congr (fun j _ => by rw [ix_rep])) (by simp) (Nat.le_refl _) (by unfold maxLen; omega)
/-- i rows of n zeros, collected -/
def AccZ (w0 W : World) (v : Value) (i n : Nat) : Prop := ∃ V, AccM w0 W v (List.replicate i (List.replicate n (0 : Int))) V ∧ ∀ j, j < i → FullV W (V j) n
theorem AccZ.x {w0 W : World} {v : Value} {i n : Nat} (h : AccZ w0 W v i n) : Ext w0 W := by
  obtain ⟨V, h1, _⟩ := h
  exact h1.x
theorem AccZ.push {P : Program} {ops : Array Oper} {rest : List Oper} {o : Oper} {a : Act} {Q : Exit → Act → World → Prop} {w0 W : World} {T E : TypeId} {i n : Nat} (hE : E = 47)
    (ht : P.underlying T = some (.slice E)) (hinfo : (P.info? E).map (fun i => (i.zero, i.size, i.bytes)) = some (some (.slice none 0 0), 1, 24))
    (hgd : o.guard = none) (s x : Operand) (ho : o.op = .call { callee := .builtin .append, args := #[s, x], argTypes := #[T, T] })
    (v : Value) (hs : a.eval s = v) (hx : a.eval x = .slice (some ⟨W.heap.size + 1, 0, none⟩) 1 1) (h : AccZ w0 W v i n) (h0 : 0 < n) (hn : n ≤ 1000) (hi : i ≤ 1000)
    (hk : ∀ v' w', AccZ w0 w' v' (i + 1) n → wpList P ops Q rest (a.put o.dst v') w') :
    wpList P ops Q (o :: rest) a ((W.alloc (.cells (madeCells #[.int .i64 0] n) 3)).alloc (.cells #[.slice (some ⟨W.heap.size, 0, none⟩) n n] E)) := by
  subst hE
  obtain ⟨V, h1, h2⟩ := h
  have hlt : ∀ j, j < i → ∀ g ∈ lb (V j), g < W.heap.size := fun j hj g hg => (h1.2.1 j (by simpa using hj)).lt hg
  have hx0 := h1.x.size
  have hl : (List.replicate i (List.replicate n (0 : Int))).length = i := by simp
  obtain ⟨hA, g2, g3, g4⟩ := h1.on (Ext.alloc W (.cells (madeCells #[.int .i64 0] n) 3))
  have hleaf := zero_leaf W n hn
  have hfull : FullV (W.alloc (.cells (madeCells #[.int .i64 0] n) 3)) (.slice (some ⟨W.heap.size, 0, none⟩) n n) n := ⟨W.heap.size, _, rfl, heap_alloc_new W _, by simp [madeCells]⟩
  refine wp_app ht hinfo rfl (by decide) hgd s x ho v (.slice (some ⟨W.heap.size, 0, none⟩) n n) _ hs (by rw [hx]; simp) rfl hA (by simp; omega) fun v' w' ha hb _ => hk v' w' ⟨fun j => if j = i then .slice (some ⟨W.heap.size, 0, none⟩) n n else V j, ⟨?_, fun j hj => ?_, fun j k hj hk hjk g hg hg' => ?_, fun j hj g hg => ?_⟩, fun j hj => ?_⟩
  · have e : (List.range (List.replicate (i + 1) (List.replicate n (0 : Int))).length).map (fun j => if j = i then Value.slice (some ⟨W.heap.size, 0, none⟩) n n else V j) = (List.range (List.replicate i (List.replicate n (0 : Int))).length).map V ++ [.slice (some ⟨W.heap.size, 0, none⟩) n n] := by
      rw [List.length_replicate, List.length_replicate, List.range_succ, List.map_append]
      congr 1
      · refine List.map_congr_left fun j hj => ?_
        have := List.mem_range.1 hj
        rw [if_neg (by omega)]
      · simp
    rw [e]; exact ha
  · rw [List.length_replicate] at hj
    have er : row (List.replicate (i + 1) (List.replicate n (0 : Int))) j = List.replicate n 0 := by rw [row_of (by simp; omega)]; simp
    rw [er]
    by_cases e : j = i
    · simp only [if_pos e]; exact hb.leaf hA.2 (by decide) hleaf
    · simp only [if_neg e]
      have hlj := g2 j (by simp; omega)
      rw [show row (List.replicate i (List.replicate n (0 : Int))) j = List.replicate n 0 by rw [row_of (by simp; omega)]; simp] at hlj
      exact hb.leaf hA.2 (by decide) hlj
  · rw [List.length_replicate] at hj hk
    have hnew : ∀ g, g ∈ lb (.slice (some ⟨W.heap.size, 0, none⟩) n n) → g = W.heap.size := fun g hg => by
      obtain ⟨m, rfl⟩ : ∃ m, n = m + 1 := ⟨n - 1, by omega⟩
      simpa [lb] using hg
    by_cases e : j = i
    · simp only [if_pos e] at hg
      have e2 : ¬ k = i := fun q => hjk (e.trans q.symm)
      simp only [if_neg e2] at hg'
      have := hnew g hg
      have := hlt k (by omega) g hg'
      omega
    · simp only [if_neg e] at hg
      by_cases e2 : k = i
      · simp only [if_pos e2] at hg'
        have := hnew g hg'
        have := hlt j (by omega) g hg
        omega
      · simp only [if_neg e2] at hg'
        exact g3 j k (by simp; omega) (by simp; omega) hjk g hg hg'
  · rw [List.length_replicate] at hj
    by_cases e : j = i
    · simp only [if_pos e] at hg
      obtain ⟨m, rfl⟩ : ∃ m, n = m + 1 := ⟨n - 1, by omega⟩
      have : g = W.heap.size := by simpa [lb] using hg
      omega
    · simp only [if_neg e] at hg
      exact g4 j (by simp; omega) g hg
  · by_cases e : j = i
    · simp only [if_pos e]
      obtain ⟨q, cs, eq, hq, hn'⟩ := hfull
      exact ⟨q, cs, eq, hb.block hA.2 (by decide) hq, hn'⟩
    · simp only [if_neg e]
      obtain ⟨q, cs, eq, hq, hn'⟩ := h2 j (by omega)
      exact ⟨q, cs, eq, hb.block hA.2 (by decide) ((Ext.block (Ext.alloc W _) (heap_lt hq)).trans hq), hn'⟩
theorem AccZ.obj {w0 W : World} {v : Value} {n : Nat} (h : AccZ w0 W v n n) : ∃ A c V, v = .slice A n c ∧ ObjF w0.heap.size W A c n (List.replicate n (List.replicate n (0 : Int))) V := by
  obtain ⟨V, h1, h2⟩ := h
  obtain ⟨A, c, e, ho⟩ := h1.obj
  rw [List.length_replicate] at e
  refine ⟨A, c, V, e, ho, fun i hi => ?_, by simp, h2⟩
  rw [List.length_replicate] at hi
  rw [row_of (by simp; omega)]
  simp
theorem rep_bd (n : Nat) : BdN 0 30 n (List.replicate n (List.replicate n (0 : Int))) := fun i hi j hj => by
  have : at2 (List.replicate n (List.replicate n (0 : Int))) i j = 0 := by
    unfold at2
    rw [row_of (by simp; omega)]
    simp [ix_rep]
  omega
/-- one of the four widths -/
theorem wide_cell {W W' : World} {g : Nat} {v : Int} (h : Only (fun x => x = g) (W.alloc (.cells #[.int .i64 2, .int .i64 5, .int .i64 12, .int .i64 30] 3)) W') (hg : g < W.heap.size) (h0 : 0 ≤ v) (h1 : v < 4 ∨ v = 0) :
    ∃ x : Int, W'.cell? ⟨W.heap.size, v.toNat, none⟩ = some (.int .i64 x) ∧ 1 ≤ x ∧ x ≤ 30 := by
  have hb : W'.heap[W.heap.size]? = some (.cells #[.int .i64 2, .int .i64 5, .int .i64 12, .int .i64 30] 3 (0, 0)) := by
    rw [h.2.2.2.2 W.heap.size (by omega)]
    exact heap_alloc_new W _
  rw [cell_cells hb]
  rcases (show v = 0 ∨ v = 1 ∨ v = 2 ∨ v = 3 by omega) with rfl | rfl | rfl | rfl
  · exact ⟨2, rfl, by omega, by omega⟩
  · exact ⟨5, rfl, by omega, by omega⟩
  · exact ⟨12, rfl, by omega, by omega⟩
  · exact ⟨30, rfl, by omega, by omega⟩
/-- what the draws of a square leave -/
def FarO (w : World) (B g : Nat) (u : Int) (e : Ending) (w' : World) : Prop :=
  ∃ b c n V D, e = .returned (.slice (some ⟨b, 0, none⟩) n c) ∧ 1 ≤ n ∧ n ≤ 6 ∧ ObjF w.heap.size w' (some ⟨b, 0, none⟩) c n D V ∧ BdN 0 30 n D ∧ RdU w' B g u ∧ ExtG g w w'
/-- the state of the filling loops -/
def FarS (w : World) (B g b c n : Nat) (V : Nat → Value) (u : Int) (wr : World) : Prop :=
  ∃ D, ObjF w.heap.size wr (some ⟨b, 0, none⟩) c n D V ∧ BdN 0 30 n D ∧ RdU wr B g u ∧ ExtG g w wr

/-- the state of the shortening loops -/
def ShS (w : World) (base b c n : Nat) (V : Nat → Value) (wr : World) : Prop :=
  ∃ D, ObjF base wr (some ⟨b, 0, none⟩) c n D V ∧ BdN 0 30 n D ∧ Below base w wr
end Go.Proofs.YtnalcgcdohlfiaaGreatDoor
namespace Go.Proofs.YtnalcgcdohlfiaaGreatDoor
open Go.RowKit
/-- rows drawn, in memory of their own -/
def DrawnM (w : World) (B g : Nat) (u : Int) (e : Ending) (w' : World) : Prop :=
  ∃ A c V D, e = .returned (.slice A (List.length D) c) ∧ ObjM w.heap.size w' A c D V ∧ D.length ≤ 6 ∧ RdU w' B g u ∧ ExtG g w w'
/-- a square under way -/
def SpS (w : World) (B g b c n : Nat) (V : Nat → Value) (u : Int) (wr : World) : Prop :=
  ∃ D, ObjF w.heap.size wr (some ⟨b, 0, none⟩) c n D V ∧ RdU wr B g u ∧ ExtG g w wr
theorem SpS.le {w : World} {B g b c n : Nat} {V : Nat → Value} {u u' : Int} {wr : World} (h : SpS w B g b c n V u wr) (k : u ≤ u') : SpS w B g b c n V u' wr := by
  obtain ⟨D, h1, h2, h3⟩ := h
  exact ⟨D, h1, h2.le k, h3⟩
theorem SpS.rd {w : World} {B g b c n : Nat} {V : Nat → Value} {u u' : Int} {wr w2 : World} (h : SpS w B g b c n V u wr) (hO : Only (fun x => x = g) wr w2) (hR : RdU w2 B g u') (hB : B ≤ w.heap.size) : SpS w B g b c n V u' w2 := by
  obtain ⟨D, h1, h2, h3⟩ := h
  exact ⟨D, h1.rd hO (by have := hR.lt; omega), hR, h3.rd hO⟩
theorem SpS.done {w : World} {B g b c n : Nat} {V : Nat → Value} {u : Int} {wr : World} (h : SpS w B g b c n V u wr) (hn : n ≤ 6) : DrawnM w B g u (.returned (.slice (some ⟨b, 0, none⟩) n c)) wr := by
  obtain ⟨D, h1, h2, h3⟩ := h
  have hl := h1.2.2.1
  exact ⟨_, c, V, D, by rw [hl], h1.1, by omega, h2, h3⟩
/-- the cells of place (i, j), and what a store there leaves -/
theorem SpS.cell {w : World} {B g b c n : Nat} {V : Nat → Value} {u : Int} {wr : World} (h : SpS w B g b c n V u wr) (hB : B ≤ w.heap.size) {i j : Nat} (hi : i < n) (hj : j < n) :
    ∃ q cr, wr.cell? ⟨b, i, none⟩ = some (.slice (some ⟨q, 0, none⟩) n cr) ∧ n ≤ cr ∧ cr ≤ maxLen ∧ (∃ y : Int, wr.cell? ⟨q, j, none⟩ = some (.int .i64 y)) ∧ wr.frozen? ⟨q, j, none⟩ = false ∧ ∀ x, SpS w B g b c n V u (wr.setCell ⟨q, j, none⟩ (.int .i64 x)) := by
  obtain ⟨D, h1, h2, h3⟩ := h
  obtain ⟨q, cr, hq⟩ := h1.sq
  obtain ⟨a1, a2, a3, a4, a5⟩ := hq i hi
  obtain ⟨c1, f1, S1⟩ := a5 j hj
  exact ⟨q i, cr i, a1, a2, a3, ⟨_, c1⟩, f1, fun x => ⟨_, S1 x, h2.set (p := ⟨q i, j, none⟩) (by show B ≤ q i; omega) _, h3.set (p := ⟨q i, j, none⟩) a4 _⟩⟩
theorem lb_own {v : Value} {g : Nat} (h : g ∈ lb v) : v.ownBlock = some g := by
  unfold lb at h
  split at h
  · simp at h; subst h; rfl
  · simp at h
/-- 'append(d[0], 0)': what is known of the new slice -/
def Grown (w : World) (B g b c n : Nat) (u : Int) (v' : Value) (w' : World) : Prop :=
  ∃ D V, D.length = n ∧ ObjM w.heap.size (w'.setCell ⟨b, 0, none⟩ v') (some ⟨b, 0, none⟩) c D V ∧ RdU (w'.setCell ⟨b, 0, none⟩ v') B g u ∧ ExtG g w (w'.setCell ⟨b, 0, none⟩ v')
theorem SpS.push {P : Program} {ops : Array Oper} {rest : List Oper} {o : Oper} {a : Act} {Q : Exit → Act → World → Prop} {w W : World} {T E : TypeId} {B g b c n : Nat} {V : Nat → Value} {u : Int} (hE : E = 3)
    (ht : P.underlying T = some (.slice E)) (hinfo : (P.info? E).map (fun i => (i.zero, i.size, i.bytes)) = some (some (.int .i64 0), 1, 8))
    (hgd : o.guard = none) (s x : Operand) (ho : o.op = .call { callee := .builtin .append, args := #[s, x], argTypes := #[T, T] })
    (v : Value) (hs : a.eval s = v) (hv : W.cell? ⟨b, 0, none⟩ = some v) (hx : a.eval x = .slice (some ⟨W.heap.size, 0, none⟩) 1 1) (h : SpS w B g b c n V u W) (hB : B ≤ w.heap.size) (h1 : 1 ≤ n) (h6 : n ≤ 6)
    (hk : ∀ A' l' c' w', (∃ y, w'.cell? ⟨b, 0, none⟩ = some y) → w'.frozen? ⟨b, 0, none⟩ = false → Grown w B g b c n u (.slice A' l' c') w' → wpList P ops Q rest (a.put o.dst (.slice A' l' c')) w') :
    wpList P ops Q (o :: rest) a (W.alloc (.cells #[.int .i64 0] E)) := by
  subst hE
  obtain ⟨D, ⟨hO, hsq, hl, hF⟩, hR, hX⟩ := h
  have hbase : w.heap.size ≤ W.heap.size := hX.size
  obtain ⟨Ar, cr, hV0, hcell, hfz, hbb, hbl, _, _⟩ := hO.row (i := 0) (by omega)
  rw [hcell] at hv
  injection hv with hv
  rw [hv] at hV0
  obtain ⟨q, cs, hq1, hq2, hq3⟩ := hF 0 (by omega)
  have hr0 : (row D 0).length = n := by rw [hsq 0 (by omega), hl]
  obtain ⟨o1, o2, o3, o4, o5, o6⟩ := id hO
  have hleaf := o4 0 (by omega)
  have hqlb : q ∈ lb (V 0) := by
    rw [hq1]
    obtain ⟨m, rfl⟩ : ∃ m, n = m + 1 := ⟨n - 1, by omega⟩
    simp [lb]
  have hqb := o6 0 (by omega) q hqlb
  have hown : W.ownsRow w.heap.size 3 1 v ((row D 0).map (Value.int .i64)).length ((row D 0).map (Value.int .i64)) := by
    refine ⟨by simp, .inr ⟨q, n, cs, by rw [← hV0, hq1]; simp [hr0], hqb, hq2, by simp [hr0], by unfold maxLen; omega, by omega, ?_⟩⟩
    obtain ⟨A', c', e, k1, k2, k3⟩ := hleaf
    obtain ⟨q', cs', e', hq', hcs'⟩ := k3 (by omega)
    rw [hq1] at e
    injection e with e1 e2 e3
    rw [e'] at e1
    injection e1 with e1; injection e1 with e1
    subst e1
    rw [hq2] at hq'
    injection hq' with hq'; injection hq' with hq'
    subst hq'
    rw [ix_map]
    refine List.ext_getElem? fun i => ?_
    rw [List.getElem?_take]
    by_cases hi : i < (row D 0).length
    · rw [if_pos (by simp; omega), Array.getElem?_toList, hcs' i hi]
      simp [hi]
    · rw [if_neg (by simp; omega), List.getElem?_eq_none (by simp; omega)]
  have hacc : Acc (cutW W w.heap.size) W 3 v ((row D 0).map (Value.int .i64)) := ⟨cut_ext hbase, by rw [cut_size hbase]; exact hown⟩
  refine wp_app ht hinfo rfl (by decide) hgd s x ho v (.int .i64 0) _ hs hx rfl hacc (by simp; omega) fun v' w' ha hb hst => ?_
  have hx' := ha.1
  obtain ⟨ha1, ha2⟩ := ha
  rw [cut_size hbase] at ha2
  have ha3 : w'.ownsRow w.heap.size 3 1 v' ((row D 0).map (Value.int .i64) ++ [Value.int .i64 0]).length ((row D 0 ++ [0]).map (Value.int .i64)) := by
    rw [List.map_append]; exact ha2
  obtain ⟨hl', hb'⟩ := Leaf.of_own ha3
  obtain ⟨b2, cs2, eb, hbase2, hh, hcs⟩ := o3 (by omega)
  injection eb with eb; injection eb with eb; subst eb
  have hh' : w'.heap[b]? = some (.cells cs2 47 (0, 0)) := hb.block hown (by decide) hh
  have hnb : ∀ {u : Value} {xs : List Int}, Leaf w' u xs → ∀ g' ∈ lb u, g' ≠ b := fun hL g' hg' e => by
    obtain ⟨cs3, h3⟩ := hL.blocks g' hg'
    rw [e, hh'] at h3
    injection h3 with h3; injection h3 with _ h3
    exact absurd h3 (by decide)
  have hkeep : ∀ (v' : Value) {u : Value} {xs : List Int}, Leaf w' u xs → Leaf (w'.setCell ⟨b, 0, none⟩ v') u xs := fun _ _ _ hL => hL.keep fun g' hg' => Below.heap_setCell _ _ _ _ (hnb hL g' hg')
  have hvown : v.ownBlock = some q := by rw [← hV0, hq1]; rfl
  have hoth : ∀ i, i < n → i ≠ 0 → Leaf w' (V i) (row D i) := fun i hi h0 => hb.leaf' (o4 i (by omega)) fun g' hg' e => by
    rw [hvown] at e
    injection e with e
    subst e
    exact o5 i 0 (by omega) (by omega) h0 _ hg' hqlb
  have hsz := hb.1
  obtain ⟨A', c', rfl, _⟩ := hl'.ints
  refine hk A' _ c' w' ⟨_, by rw [cell_cells hh', hcs 0 (by omega)]⟩ (frozen_cells hh' 0) ⟨D.set 0 (row D 0 ++ [0]), fun i => if i = 0 then .slice A' (row D 0 ++ [0]).length c' else V i, by simp [hl], ⟨by simpa using o1, o2, fun _ => ⟨b, cs2.setIfInBounds 0 (.slice A' (row D 0 ++ [0]).length c'), rfl, hbase2, ?_, fun i hi => ?_⟩, fun i hi => ?_, fun i j hi hj hij g1 hg1 hg2 => ?_, fun i hi g1 hg1 => ?_⟩, ?_, ?_⟩
  · simp [World.setCell, Array.getElem?_modify, hh']
  · have hi' : i < D.length := by simpa using hi
    have hsz2 : 0 < cs2.size := (Array.getElem?_eq_some_iff.1 (hcs 0 (by omega))).1
    rw [Array.getElem?_setIfInBounds]
    by_cases e : i = 0
    · subst e; simp [hsz2]
    · rw [if_neg (Ne.symm e), hcs i hi']; simp only [if_neg e]
  · have hi' : i < D.length := by simpa using hi
    rw [row_set (by omega)]
    by_cases e : i = 0
    · simp only [if_pos e]; exact hkeep _ hl'
    · simp only [if_neg e]; exact hkeep _ (hoth i (by omega) e)
  · have hi' : i < D.length := by simpa using hi
    have hj' : j < D.length := by simpa using hj
    have hnew : ∀ g1, g1 ∈ lb (.slice A' (row D 0 ++ [0]).length c') → g1 = q ∨ g1 = W.heap.size + 1 := fun g1 hg => by
      have h5 := lb_own hg
      rcases hst with h6 | h6
      · rw [h6, hvown] at h5; injection h5 with h5; exact .inl h5.symm
      · rw [h6] at h5; injection h5 with h5; exact .inr h5.symm
    by_cases e : i = 0
    · have e2 : ¬ j = 0 := fun k => hij (e.trans k.symm)
      simp only [if_pos e] at hg1
      simp only [if_neg e2] at hg2
      rcases hnew g1 hg1 with k | k
      · subst k; exact o5 j 0 hj' (by omega) e2 _ hg2 hqlb
      · have := (o4 j hj').lt hg2; omega
    · simp only [if_neg e] at hg1
      by_cases e2 : j = 0
      · simp only [if_pos e2] at hg2
        rcases hnew g1 hg2 with k | k
        · subst k; exact o5 i 0 hi' (by omega) e _ hg1 hqlb
        · have := (o4 i hi').lt hg1; omega
      · simp only [if_neg e2] at hg2
        exact o5 i j hi' hj' hij g1 hg1 hg2
  · have hi' : i < D.length := by simpa using hi
    by_cases e : i = 0
    · simp only [if_pos e] at hg1; exact hb' g1 hg1
    · simp only [if_neg e] at hg1; exact o6 i hi' g1 hg1
  · exact (hR.cut hx' hbase hB).set (p := ⟨b, 0, none⟩) (by show B ≤ b; omega) _
  · exact (hX.cut hx' hbase (Nat.le_refl _)).set (p := ⟨b, 0, none⟩) hbase2 _

end Go.Proofs.YtnalcgcdohlfiaaGreatDoor
namespace Go.Proofs.YtnalcgcdohlfiaaGreatDoor
open Go.RowKit

/-- what CaterpillarOf leaves -/
def CatO (w : World) (e : Ending) (w' : World) : Prop :=
  ∃ A c V D b, e = .returned (.tuple #[.slice A (List.length D) c, .bool b]) ∧ ObjM w.heap.size w' A c D V ∧ D.length ≤ 6 ∧ Ext w w'
/-- a row of j numbers under way -/
def RowAcc (w0 : World) (v : Value) (j : Nat) (W : World) : Prop := ∃ xs : List Int, xs.length = j ∧ Acc w0 W 3 v (xs.map (Value.int .i64))
theorem RowAcc.x {w0 W : World} {v : Value} {j : Nat} (h : RowAcc w0 v j W) : Ext w0 W := by
  obtain ⟨xs, _, h1⟩ := h
  exact h1.1
theorem RowAcc.on {w0 W W' : World} {v : Value} {j : Nat} (h : RowAcc w0 v j W) (x : Ext W W') : RowAcc w0 v j W' := by
  obtain ⟨xs, h0, h1⟩ := h
  exact ⟨xs, h0, h1.on x⟩
/-- a row under way -/
theorem row_push {P : Program} {ops : Array Oper} {rest : List Oper} {o : Oper} {a : Act} {Q : Exit → Act → World → Prop} {w0 W : World} {T E : TypeId} {y : Int} {k : Nat} (hE : E = 3)
    (ht : P.underlying T = some (.slice E)) (hinfo : (P.info? E).map (fun i => (i.zero, i.size, i.bytes)) = some (some (.int .i64 0), 1, 8))
    (hgd : o.guard = none) (s x : Operand) (ho : o.op = .call { callee := .builtin .append, args := #[s, x], argTypes := #[T, T] })
    (v : Value) (hs : a.eval s = v) (hx : a.eval x = .slice (some ⟨W.heap.size, 0, none⟩) 1 1) (h : RowAcc w0 v k W) (hl : k ≤ 1000)
    (hk : ∀ v' w', RowAcc w0 v' (k + 1) w' → wpList P ops Q rest (a.put o.dst v') w') :
    wpList P ops Q (o :: rest) a (W.alloc (.cells #[.int .i64 y] E)) := by
  subst hE
  obtain ⟨xs, rfl, hacc⟩ := h
  refine wp_app ht hinfo rfl (by decide) hgd s x ho v (.int .i64 y) _ hs hx rfl hacc (by simp; omega) fun v' w' ha hb hst => hk v' w' ⟨xs ++ [y], by simp, ?_⟩
  rw [List.map_append]
  exact ha
/-- rows under way: how many -/
def RowsN (w0 W : World) (v : Value) (k : Nat) : Prop := ∃ D V, D.length = k ∧ AccM w0 W v D V
theorem RowsN.x {w0 W : World} {v : Value} {k : Nat} (h : RowsN w0 W v k) : Ext w0 W := by
  obtain ⟨D, V, _, h1⟩ := h
  exact h1.x
theorem RowsN.on {w0 W W' : World} {v : Value} {k : Nat} (h : RowsN w0 W v k) (x : Ext W W') : RowsN w0 W' v k := by
  obtain ⟨D, V, h0, h1⟩ := h
  exact ⟨D, V, h0, h1.on x⟩
theorem RowsN.push {P : Program} {ops : Array Oper} {rest : List Oper} {o : Oper} {a : Act} {Q : Exit → Act → World → Prop} {w0 wr W : World} {T E : TypeId} {k m : Nat} {r : Value} (hE : E = 47)
    (ht : P.underlying T = some (.slice E)) (hinfo : (P.info? E).map (fun i => (i.zero, i.size, i.bytes)) = some (some (.slice none 0 0), 1, 24))
    (hgd : o.guard = none) (s x : Operand) (ho : o.op = .call { callee := .builtin .append, args := #[s, x], argTypes := #[T, T] })
    (v : Value) (hs : a.eval s = v) (hx : a.eval x = .slice (some ⟨W.heap.size, 0, none⟩) 1 1) (h : RowsN w0 wr v k) (hr : ∃ xs : List Int, xs.length = m ∧ Acc wr W 3 r (xs.map (Value.int .i64))) (hl : k ≤ 1000)
    (hk : ∀ v' w', RowsN w0 w' v' (k + 1) → wpList P ops Q rest (a.put o.dst v') w') :
    wpList P ops Q (o :: rest) a (W.alloc (.cells #[r] E)) := by
  obtain ⟨D, V, rfl, h1⟩ := h
  obtain ⟨xs, -, hacc⟩ := hr
  have hlt : ∀ i, i < D.length → ∀ g ∈ lb (V i), g < wr.heap.size := fun i hi g hg => (h1.2.1 i hi).lt hg
  have hx0 := h1.x.size
  obtain ⟨hleaf, hge⟩ := Leaf.of_own hacc.2
  obtain ⟨Ar, cr, rfl, _⟩ := hleaf.ints
  exact wp_appM hE ht hinfo hgd s x ho v _ D xs V hs hx rfl (h1.on hacc.1) hleaf (fun g hg => ⟨by have := hge g hg; omega, fun i hi hg' => by have := hlt i hi g hg'; have := hge g hg; omega⟩) (by omega)
    fun v' w' ha => hk v' w' ⟨_, _, by simp, ha⟩

end Go.Proofs.YtnalcgcdohlfiaaGreatDoor
namespace Go.Proofs.YtnalcgcdohlfiaaGreatDoor
open Go.RowKit
/-- a list of numbers of one's own, under way -/
def OwnI (base : Nat) (W : World) (v : Value) (xs : List Int) : Prop := W.ownsRow base 3 1 v (xs.map (Value.int .i64)).length (xs.map (Value.int .i64))
theorem OwnI.keep {base : Nat} {W W' : World} {v : Value} {xs : List Int} (h : OwnI base W v xs) (k : ∀ q, v.ownBlock = some q → q < W.heap.size → W'.heap[q]? = W.heap[q]?) : OwnI base W' v xs := by
  obtain ⟨h1, h2⟩ := h
  refine ⟨h1, ?_⟩
  rcases h2 with h3 | ⟨g, cap, cur, rfl, e2, e3, e4⟩
  · exact .inl h3
  · exact .inr ⟨g, cap, cur, rfl, e2, (k g rfl (heap_lt e3)).trans e3, e4⟩
theorem OwnI.ge {base : Nat} {W : World} {v : Value} {xs : List Int} (h : OwnI base W v xs) {q : Nat} (hq : v.ownBlock = some q) : base ≤ q ∧ q < W.heap.size := h.lt q hq
theorem OwnI.leaf {base : Nat} {W : World} {v : Value} {xs : List Int} (h : OwnI base W v xs) : Leaf W v xs ∧ ∀ g ∈ lb v, base ≤ g := Leaf.of_own h
/-- two lists under way, apart -/
def TwoI (w : World) (B g : Nat) (u : Int) (v s : Value) (xs ys : List Int) (W : World) : Prop :=
  OwnI w.heap.size W v xs ∧ OwnI w.heap.size W s ys ∧ (∀ q, v.ownBlock = some q → s.ownBlock ≠ some q) ∧ RdU W B g u ∧ ExtG g w W
theorem TwoI.swap {w W : World} {B g : Nat} {u : Int} {v s : Value} {xs ys : List Int} (h : TwoI w B g u v s xs ys W) : TwoI w B g u s v ys xs W :=
  ⟨h.2.1, h.1, fun q h1 h2 => h.2.2.1 q h2 h1, h.2.2.2.1, h.2.2.2.2⟩
theorem TwoI.rd {w W W' : World} {B g : Nat} {u u' : Int} {v s : Value} {xs ys : List Int} (h : TwoI w B g u v s xs ys W) (hO : Only (fun x => x = g) W W') (hR : RdU W' B g u') (hB : B ≤ w.heap.size) : TwoI w B g u' v s xs ys W' := by
  obtain ⟨h1, h2, h3, h4, h5⟩ := h
  have hg := hR.lt
  exact ⟨h1.keep fun q hq _ => hO.2.2.2.2 q (by have := (h1.ge hq).1; omega), h2.keep fun q hq _ => hO.2.2.2.2 q (by have := (h2.ge hq).1; omega), h3, hR, h5.rd hO⟩
theorem TwoI.le {w W : World} {B g : Nat} {u u' : Int} {v s : Value} {xs ys : List Int} (h : TwoI w B g u v s xs ys W) (k : u ≤ u') : TwoI w B g u' v s xs ys W := by
  obtain ⟨h1, h2, h3, h4, h5⟩ := h
  exact ⟨h1, h2, h3, h4.le k, h5⟩
theorem TwoI.push {P : Program} {ops : Array Oper} {rest : List Oper} {o : Oper} {a : Act} {Q : Exit → Act → World → Prop} {w W : World} {T E : TypeId} {B g : Nat} {u : Int} {y : Int} {xs ys : List Int} {s' : Value} (hE : E = 3)
    (ht : P.underlying T = some (.slice E)) (hinfo : (P.info? E).map (fun i => (i.zero, i.size, i.bytes)) = some (some (.int .i64 0), 1, 8))
    (hgd : o.guard = none) (s x : Operand) (ho : o.op = .call { callee := .builtin .append, args := #[s, x], argTypes := #[T, T] })
    (v : Value) (hs : a.eval s = v) (hx : a.eval x = .slice (some ⟨W.heap.size, 0, none⟩) 1 1) (h : TwoI w B g u v s' xs ys W) (hB : B ≤ w.heap.size) (hl : xs.length ≤ 1000)
    (hk : ∀ v' w', TwoI w B g u v' s' (xs ++ [y]) ys w' → wpList P ops Q rest (a.put o.dst v') w') :
    wpList P ops Q (o :: rest) a (W.alloc (.cells #[.int .i64 y] E)) := by
  subst hE
  obtain ⟨h1, h2, h3, h4, h5⟩ := h
  have hbase : w.heap.size ≤ W.heap.size := h5.size
  have hacc : Acc (cutW W w.heap.size) W 3 v (xs.map (Value.int .i64)) := ⟨cut_ext hbase, by rw [cut_size hbase]; exact h1⟩
  refine wp_app ht hinfo rfl (by decide) hgd s x ho v (.int .i64 y) _ hs hx rfl hacc (by simp; omega) fun v' w' ha hb hst => hk v' w' ⟨?_, ?_, fun q hq hq' => ?_, h4.cut ha.1 hbase hB, h5.cut ha.1 hbase (Nat.le_refl _)⟩
  · have ha2 := ha.2
    rw [cut_size hbase] at ha2
    unfold OwnI
    rw [List.map_append]
    exact ha2
  · exact h2.keep fun q hq hlt => hb.2 q hlt fun e => h3 q e.symm hq
  · rcases hst with k | k
    · rw [k] at hq; exact h3 q hq hq'
    · rw [k] at hq; injection hq with hq; subst hq
      have := (h2.ge hq').2
      omega

/-- two new lists -/
theorem two_start {w w1 : World} {B g : Nat} {u : Int} (hR0 : RdU w B g u) (hO : Only (fun x => x = g) ((w.alloc (.cells #[] 3)).alloc (.cells #[] 3)) w1) (hR : RdU w1 B g (u + 1)) (hB : B ≤ w.heap.size) :
    TwoI w B g (u + 1 + 2 * (([] : List Int).length : Int)) (.slice (some ⟨w.heap.size, 0, none⟩) 0 0) (.slice (some ⟨w.heap.size + 1, 0, none⟩) 0 0) [] [] w1 := by
  have hg := hR.lt
  have h1 : OwnI w.heap.size (w.alloc (.cells #[] 3)) (.slice (some ⟨w.heap.size, 0, none⟩) 0 0) [] := World.ownsRow_made w #[] 0 (Nat.le_refl _) (Nat.zero_le _) rfl
  have h2 : OwnI w.heap.size ((w.alloc (.cells #[] 3)).alloc (.cells #[] 3)) (.slice (some ⟨w.heap.size + 1, 0, none⟩) 0 0) [] := by
    have h : ((w.alloc (.cells #[] 3)).alloc (.cells #[] 3)).ownsRow w.heap.size 3 1 (.slice (some ⟨(w.alloc (.cells #[] 3)).heap.size, 0, none⟩) 0 0) 0 [] := World.ownsRow_made (w.alloc (.cells #[] 3)) #[] 0 (by simp) (Nat.zero_le _) rfl
    simpa [OwnI] using h
  refine TwoI.rd (u := u) ⟨h1.keep fun q hq hlt => Below.heap_alloc _ _ _ hlt, h2, fun q h3 h4 => ?_, ?_, ((ExtG.refl g w).alloc _).alloc _⟩ hO (by simpa using hR) hB
  · simp [Value.ownBlock] at h3 h4; omega
  · exact hR0.ext ((Ext.alloc _ _).trans (Ext.alloc _ _)) hB
/-- all numbers between a and b -/
def AllIn (a b : Int) (xs : List Int) : Prop := ∀ i, i < xs.length → a ≤ ix xs i ∧ ix xs i ≤ b
theorem AllIn.push {a b : Int} {xs : List Int} (h : AllIn a b xs) {y : Int} (h0 : a ≤ y) (h1 : y ≤ b) : AllIn a b (xs ++ [y]) := fun i hi => by
  simp only [List.length_append, List.length_singleton] at hi
  by_cases e : i < xs.length
  · have := h i e
    rw [ix_of (by simp; omega), List.getElem_append_left e, ← ix_of e]; exact this
  · rw [ix_of (by simp; omega), List.getElem_append_right (by omega)]
    simp; omega
/-- the state of the drawing loop -/
def TrS (w : World) (B g : Nat) (u : Int) (K gm : Nat) (v s : Value) (W : World) : Prop :=
  ∃ xs ys, xs.length + gm = K ∧ (ys.length = xs.length ∧ 0 < gm ∨ ys.length + 1 = xs.length ∧ gm = 0) ∧ AllIn 1 5 xs ∧ AllIn 0 5 ys ∧ TwoI w B g (u + 1 + 2 * xs.length) v s xs ys W
end Go.Proofs.YtnalcgcdohlfiaaGreatDoor
namespace Go.Proofs.YtnalcgcdohlfiaaGreatDoor
open Go.RowKit Go.ChangeShapes Go.WideShapes Go.ChangeAt Go.Deep
theorem cellsU : Tryz.prog.cellsOf 5 = 1 := by kernel_rfl
/-- n bytes at A -/
def Byt (w : World) (A : Option Addr) (n c : Nat) : Prop :=
  n ≤ c ∧ c ≤ maxLen ∧ ∃ b o, (0 < n → A = some ⟨b, o, none⟩) ∧ ∀ k, k < n → ∃ x : Int, w.cell? ⟨b, o + k, none⟩ = some (.int .u8 x) ∧ 0 ≤ x ∧ x ≤ 255
theorem Byt.ext {w w' : World} {A : Option Addr} {n c : Nat} (h : Byt w A n c) (k : Ext w w') : Byt w' A n c := by
  obtain ⟨h1, h2, b, o, hA, hc⟩ := h
  refine ⟨h1, h2, b, o, hA, fun j hj => ?_⟩
  obtain ⟨x, e, h0, h1⟩ := hc j hj
  exact ⟨x, k.cell e, h0, h1⟩
section
variable {H : Type} {enc : TypeId × Value → H} {W : World} {base : Nat}
set_option maxRecDepth 100000 in
/-- AN ARGUMENT that is a slice of bytes -/
theorem read_bytes {r : Reach} {b0 : Nat} {v : Value} {d : DataW H} {ps : List MemPlace} (hval : Value.okWide Tryz.prog W r b0 22 v) (h : DataW.Trod enc Tryz.prog W base (fun _ => true) true 22 v d ps) :
    ∃ A n c, v = .slice A n c ∧ Byt W A n c := by
  obtain ⟨a0, len, cap, rfl⟩ := okWide_slice Tryz.underlying22 hval
  obtain ⟨fuel, hf⟩ := h
  rcases open_ints Tryz.underlying22 Tryz.underlying5 cellsU hf with ⟨hcs, _⟩ | ⟨a, len', cap', zs, hcs, hb, hl, hm, hz, hy, hcell, hwz⟩
  · simp [Value.cells] at hcs
    obtain ⟨rfl, rfl, rfl⟩ := hcs
    exact ⟨none, 0, 0, rfl, Nat.le_refl _, Nat.zero_le _, 0, 0, fun h => absurd h (by omega), fun j hj => absurd hj (by omega)⟩
  · simp [Value.cells] at hcs
    obtain ⟨rfl, rfl, rfl⟩ := hcs
    simp only [if_true] at hz
    refine ⟨some a, len, cap, rfl, hl, hm, ?_⟩
    by_cases hL : len = 0
    · exact ⟨0, 0, fun h => absurd h (by omega), fun j hj => absurd hj (by omega)⟩
    · obtain ⟨b, o, s⟩ := a
      have h0 := hcell 0 (by omega)
      have hs : s = none := by simpa [Addr.add] using World.cell?_spot h0
      subst hs
      refine ⟨b, o, fun _ => rfl, fun j hj => ?_⟩
      have hc := hcell j (by omega)
      rw [add_plain] at hc
      have hlt : j < zs.length := by omega
      obtain ⟨k0, k1⟩ := bounds_u8 (hwz zs[j] (List.getElem_mem hlt))
      exact ⟨zs[j], by rw [hc]; simp [List.getD, hlt], k0, k1⟩
end
set_option maxHeartbeats 1000000 in
theorem open_any (A : Option Addr) (n c : Nat) (w : World) (h : Byt w A n c) :
    Calls Tryz.prog 13 #[.slice A n c] w fun e w' => ∃ g, e = .returned (.pointer (some ⟨g, 0, none⟩)) ∧ Ext w w' ∧ w.heap.size ≤ g ∧ RdU w' w'.heap.size g 0 := by
  obtain ⟨h1, h2, b, o, hA, hc⟩ := h
  have hm := h2
  unfold maxLen at hm
  have key : ∀ k : Nat, k ≤ 2000 → k ≤ n → ∃ g, w.heap.size ≤ g ∧ g = w.heap.size ∧ RdU (w.alloc (.cells #[.slice A k c, .int .i64 0] 49)) (w.alloc (.cells #[.slice A k c, .int .i64 0] 49)).heap.size w.heap.size 0 := fun k hk hkn => by
    have hlt : 0 < k → b < w.heap.size := fun h0 => by
      obtain ⟨x, e, _⟩ := hc 0 (by omega)
      exact World.block_lt_of_cell? w _ e
    refine ⟨w.heap.size, Nat.le_refl _, rfl, 0, Int.le_refl _, A, k, c, b, o, fun h0 => hA (by omega), hk, by omega, h2, heap_alloc_new w _, ⟨fun h0 => ⟨by have := hlt h0; omega, by have := hlt h0; simp; omega⟩, by simp⟩, Int.le_refl _, by omega, fun j hj => ?_⟩
    obtain ⟨x, e, h0, h1⟩ := hc j (by omega)
    exact ⟨x, (Ext.alloc w _).cell e, h0, h1⟩
  have HK := Lib.hid key
  clear key hc hA
  by_cases hn : 2000 < n
  · have hn' : (2000 : Int) < (n : Nat) := by omega
    obtain ⟨g, hg, rfl, hR⟩ := HK.out 2000 (by omega) (by omega)
    have HR := Lib.hid hR
    clear hR HK
    go_enter Tryz.func13, Tryz.ntmps13
    go_wp2
    go_ret
    exact ⟨_, rfl, Ext.alloc _ _, Nat.le_refl _, HR.out⟩
  · have hn' : ¬ (2000 : Int) < (n : Nat) := by omega
    obtain ⟨g, hg, rfl, hR⟩ := HK.out n (by omega) (by omega)
    have HR := Lib.hid hR
    clear hR HK
    go_enter Tryz.func13, Tryz.ntmps13
    go_wp2
    go_ret
    exact ⟨_, rfl, Ext.alloc _ _, Nat.le_refl _, HR.out⟩
end Go.Proofs.YtnalcgcdohlfiaaGreatDoor
namespace Go.Proofs.YtnalcgcdohlfiaaGreatDoor
open Go.RowKit
theorem OwnI.len {base : Nat} {W : World} {v : Value} {xs : List Int} (h : OwnI base W v xs) : ∃ A c, v = .slice A xs.length c ∧ xs.length ≤ c ∧ c ≤ maxLen := by
  obtain ⟨A, c, e, hI⟩ := h.leaf.1.ints
  exact ⟨A, c, e, hI.1, hI.2.1⟩
/-- a number of the list turned -/
theorem OwnI.set {base n : Nat} {W : World} {A : Option Addr} {c : Nat} {xs : List Int} (h : OwnI base W (.slice A n c) xs) {j : Nat} (hj : j < xs.length) :
    ∃ q, A = some ⟨q, 0, none⟩ ∧ W.cell? ⟨q, j, none⟩ = some (.int .i64 (ix xs j)) ∧ W.frozen? ⟨q, j, none⟩ = false ∧ base ≤ q ∧ ∀ x, OwnI base (W.setCell ⟨q, j, none⟩ (.int .i64 x)) (.slice A n c) (xs.set j x) := by
  obtain ⟨h1, h2⟩ := h
  rcases h2 with ⟨_, h0⟩ | ⟨q, cap, cur, e, hb, hh, hc, hm, hs, ht⟩
  · rw [List.length_map] at h0; omega
  · injection e with e1 e2 e3
    subst e1; subst e2; subst e3
    have hlen : (xs.map (Value.int .i64)).length = xs.length := by simp
    rw [hlen] at ht hc
    have hcj : cur[j]? = some (.int .i64 (ix xs j)) := by
      have e : (cur.toList.take (xs.length * 1))[j]? = (xs.map (Value.int .i64))[j]? := by rw [ht]
      rw [List.getElem?_take, if_pos (by omega)] at e
      rw [← Array.getElem?_toList, e]
      simp [hj, ix_of hj]
    refine ⟨q, rfl, by rw [cell_cells hh, hcj], frozen_cells hh j, hb, fun x => ⟨by simp, .inr ⟨q, c, cur.setIfInBounds j (.int .i64 x), by simp, hb, ?_, by simpa using hc, hm, by simpa using hs, ?_⟩⟩⟩
    · simp [World.setCell, Array.getElem?_modify, hh]
    · have e2 : ((xs.set j x).map (Value.int .i64)).length = xs.length := by simp
      rw [e2, Array.toList_setIfInBounds, List.take_set, ht, List.map_set]
theorem OwnI.ints {base : Nat} {W : World} {A : Option Addr} {n c : Nat} {xs : List Int} (h : OwnI base W (.slice A n c) xs) : n = xs.length ∧ Ints W A c xs := by
  obtain ⟨A', c', e, hI⟩ := h.leaf.1.ints
  injection e with e1 e2 e3
  subst e1; subst e2; subst e3
  exact ⟨rfl, hI⟩
/-- rows that lie below b -/
def Under (b g : Nat) (w : World) (A : Option Addr) (c : Nat) (D : List (List Int)) : Prop := ∀ W : World, (∀ k, k < b → k ≠ g → W.heap[k]? = w.heap[k]?) → Mat W A c D
theorem Under.mat {b g : Nat} {w : World} {A : Option Addr} {c : Nat} {D : List (List Int)} (h : Under b g w A c D) : Mat w A c D := h w fun _ _ _ => rfl
theorem Under.rd {b g : Nat} {w w' : World} {A : Option Addr} {c : Nat} {D : List (List Int)} (h : Under b g w A c D) (k : Only (fun x => x = g) w w') : Under b g w' A c D :=
  fun W hW => h W fun i hi hne => (hW i hi hne).trans (k.2.2.2.2 i hne)
theorem Under.set {b g : Nat} {w : World} {A : Option Addr} {c : Nat} {D : List (List Int)} (h : Under b g w A c D) {p : Addr} (hp : b ≤ p.block) (x : Value) : Under b g (w.setCell p x) A c D :=
  fun W hW => h W fun i hi hne => (hW i hi hne).trans (Below.heap_setCell _ _ _ _ (by omega))
theorem Under.ext {b g : Nat} {w w' : World} {A : Option Addr} {c : Nat} {D : List (List Int)} (h : Under b g w A c D) (hb : b ≤ w.heap.size) (k : Ext w w') : Under b g w' A c D :=
  fun W hW => h W fun i hi hne => (hW i hi hne).trans (k.block (by omega))
theorem ObjM.under {base : Nat} {w w' : World} {A : Option Addr} {c : Nat} {D : List (List Int)} {V : Nat → Value} {g : Nat} (h : ObjM base w A c D V) (hg : g < base) (k : ExtG g w w') : Under w.heap.size g w' A c D :=
  fun W hW => (h.keep fun q hb hq => (hW q hq (by omega)).trans (k.2.2.2.2 q hq (by omega))).mat
/-- rows and numbers drawn -/
def DrawnW (w : World) (B g : Nat) (u : Int) (e : Ending) (w' : World) : Prop :=
  ∃ A c D A2 c2 ws b, e = .returned (.tuple #[.slice A (List.length D) c, .slice A2 (List.length ws) c2]) ∧ Under b g w' A c D ∧ D.length ≤ 6 ∧ w.heap.size ≤ b ∧ b ≤ w'.heap.size ∧ OwnI b w' (.slice A2 ws.length c2) ws ∧ ws.length ≤ 7 ∧ RdU w' B g u ∧ ExtG g w w'
end Go.Proofs.YtnalcgcdohlfiaaGreatDoor
