/- What is proved: l20Far draws a square of distances in memory of its own; l20Closed shortens it in place. Conditions: those of each contract. -/
import Derived.Test.YtpkiodpocggfbaaObj
import Derived.StillTailTactics
namespace Go.Proofs.Ytpkiodpocggfbaa
open Go.RowKit
theorem ix_rep (n j : Nat) : ix (List.replicate n (0 : Int)) j = 0 := by
  unfold ix
  by_cases h : j < n
  · simp [List.getD, h]
  · simp [List.getD, List.getElem?_eq_none (show (List.replicate n (0 : Int)).length ≤ j by simp; omega)]
theorem zero_leaf (W : World) (n : Nat) (hn : n ≤ 1000) : Leaf (W.alloc (.cells (madeCells #[.int .i64 0] n) 3)) (.slice (some ⟨W.heap.size, 0, none⟩) n n) (List.replicate n (0 : Int)) :=
  Leaf.of_row ((World.rowIs_made W (.int .i64 0) n 3).congr (fun j _ => by rw [ix_rep])) (by simp) (Nat.le_refl _) (by unfold maxLen; omega)
/-- i rows of n zeros, collected -/
def AccZ (w0 W : World) (v : Value) (i n : Nat) : Prop := ∃ V, AccM w0 W v (List.replicate i (List.replicate n (0 : Int))) V ∧ ∀ j, j < i → FullV W (V j) n
theorem AccZ.x {w0 W : World} {v : Value} {i n : Nat} (h : AccZ w0 W v i n) : Ext w0 W := by
  obtain ⟨V, h1, _⟩ := h
  exact h1.x
theorem AccZ.push {P : Program} {ops : Array Oper} {rest : List Oper} {o : Oper} {a : Act} {Q : Exit → Act → World → Prop} {w0 W : World} {T E : TypeId} {i n : Nat} (hE : E = 28)
    (ht : P.underlying T = some (.slice E)) (hinfo : (P.info? E).map (fun i => (i.zero, i.size, i.bytes)) = some (some (.slice none 0 0), 1, 24))
    (hgd : o.guard = none) (s x : Operand) (ho : o.op = .call { callee := .builtin .append, args := #[s, x], argTypes := #[T, T] })
    (v : Value) (hs : a.eval s = v) (hx : a.eval x = .slice (some ⟨W.heap.size + 1, 0, none⟩) 1 1) (h : AccZ w0 W v i n) (h0 : 0 < n) (hn : n ≤ 1000) (hi : i ≤ 1000)
    (hk : ∀ v' w', AccZ w0 w' v' (i + 1) n → wpList P ops Q rest (a.put o.dst v') w') :
    wpList P ops Q (o :: rest) a ((W.alloc (.cells (madeCells #[.int .i64 0] n) 3)).alloc (.cells #[.slice (some ⟨W.heap.size, 0, none⟩) n n] E)) := by
  subst hE
  obtain ⟨V, h1, h2⟩ := h
  have hlt : ∀ j, j < i → ∀ g ∈ lb (V j), g < W.heap.size := fun j hj g hg => (h1.2.1 j (by simpa using hj)).lt hg
  have hx0 := h1.x.size
  have hl : (List.replicate i (List.replicate n (0 : Int))).length = i := by simp
  obtain ⟨hA, g2, g3, g4⟩ := h1.on (Ext.alloc W (.cells (madeCells #[.int .i64 0] n) 3))
  have hleaf := zero_leaf W n hn
  have hfull : FullV (W.alloc (.cells (madeCells #[.int .i64 0] n) 3)) (.slice (some ⟨W.heap.size, 0, none⟩) n n) n := ⟨W.heap.size, _, rfl, heap_alloc_new W _, by simp [madeCells]⟩
  refine wp_app ht hinfo rfl (by decide) hgd s x ho v (.slice (some ⟨W.heap.size, 0, none⟩) n n) _ hs (by rw [hx]; simp) rfl hA (by simp; omega) fun v' w' ha hb _ => hk v' w' ⟨fun j => if j = i then .slice (some ⟨W.heap.size, 0, none⟩) n n else V j, ⟨?_, fun j hj => ?_, fun j k hj hk hjk g hg hg' => ?_, fun j hj g hg => ?_⟩, fun j hj => ?_⟩
  · have e : (List.range (List.replicate (i + 1) (List.replicate n (0 : Int))).length).map (fun j => if j = i then Value.slice (some ⟨W.heap.size, 0, none⟩) n n else V j) = (List.range (List.replicate i (List.replicate n (0 : Int))).length).map V ++ [.slice (some ⟨W.heap.size, 0, none⟩) n n] := by
      rw [List.length_replicate, List.length_replicate, List.range_succ, List.map_append]
      congr 1
      · refine List.map_congr_left fun j hj => ?_
        have := List.mem_range.1 hj
        rw [if_neg (by omega)]
      · simp
    rw [e]; exact ha
  · rw [List.length_replicate] at hj
    have er : row (List.replicate (i + 1) (List.replicate n (0 : Int))) j = List.replicate n 0 := by rw [row_of (by simp; omega)]; simp
    rw [er]
    by_cases e : j = i
    · simp only [if_pos e]; exact hb.leaf hA.2 (by decide) hleaf
    · simp only [if_neg e]
      have hlj := g2 j (by simp; omega)
      rw [show row (List.replicate i (List.replicate n (0 : Int))) j = List.replicate n 0 by rw [row_of (by simp; omega)]; simp] at hlj
      exact hb.leaf hA.2 (by decide) hlj
  · rw [List.length_replicate] at hj hk
    have hnew : ∀ g, g ∈ lb (.slice (some ⟨W.heap.size, 0, none⟩) n n) → g = W.heap.size := fun g hg => by
      obtain ⟨m, rfl⟩ : ∃ m, n = m + 1 := ⟨n - 1, by omega⟩
      simpa [lb] using hg
    by_cases e : j = i
    · simp only [if_pos e] at hg
      have e2 : ¬ k = i := fun q => hjk (e.trans q.symm)
      simp only [if_neg e2] at hg'
      have := hnew g hg
      have := hlt k (by omega) g hg'
      omega
    · simp only [if_neg e] at hg
      by_cases e2 : k = i
      · simp only [if_pos e2] at hg'
        have := hnew g hg'
        have := hlt j (by omega) g hg
        omega
      · simp only [if_neg e2] at hg'
        exact g3 j k (by simp; omega) (by simp; omega) hjk g hg hg'
  · rw [List.length_replicate] at hj
    by_cases e : j = i
    · simp only [if_pos e] at hg
      obtain ⟨m, rfl⟩ : ∃ m, n = m + 1 := ⟨n - 1, by omega⟩
      have : g = W.heap.size := by simpa [lb] using hg
      omega
    · simp only [if_neg e] at hg
      exact g4 j (by simp; omega) g hg
  · by_cases e : j = i
    · simp only [if_pos e]
      obtain ⟨q, cs, eq, hq, hn'⟩ := hfull
      exact ⟨q, cs, eq, hb.block hA.2 (by decide) hq, hn'⟩
    · simp only [if_neg e]
      obtain ⟨q, cs, eq, hq, hn'⟩ := h2 j (by omega)
      exact ⟨q, cs, eq, hb.block hA.2 (by decide) ((Ext.block (Ext.alloc W _) (heap_lt hq)).trans hq), hn'⟩
theorem AccZ.obj {w0 W : World} {v : Value} {n : Nat} (h : AccZ w0 W v n n) : ∃ A c V, v = .slice A n c ∧ ObjF w0.heap.size W A c n (List.replicate n (List.replicate n (0 : Int))) V := by
  obtain ⟨V, h1, h2⟩ := h
  obtain ⟨A, c, e, ho⟩ := h1.obj
  rw [List.length_replicate] at e
  refine ⟨A, c, V, e, ho, fun i hi => ?_, by simp, h2⟩
  rw [List.length_replicate] at hi
  rw [row_of (by simp; omega)]
  simp
theorem rep_bd (n : Nat) : BdN 0 30 n (List.replicate n (List.replicate n (0 : Int))) := fun i hi j hj => by
  have : at2 (List.replicate n (List.replicate n (0 : Int))) i j = 0 := by
    unfold at2
    rw [row_of (by simp; omega)]
    simp [ix_rep]
  omega
/-- one of the four widths -/
theorem wide_cell {W W' : World} {g : Nat} {v : Int} (h : Only (fun x => x = g) (W.alloc (.cells #[.int .i64 2, .int .i64 5, .int .i64 12, .int .i64 30] 3)) W') (hg : g < W.heap.size) (h0 : 0 ≤ v) (h1 : v < 4 ∨ v = 0) :
    ∃ x : Int, W'.cell? ⟨W.heap.size, v.toNat, none⟩ = some (.int .i64 x) ∧ 1 ≤ x ∧ x ≤ 30 := by
  have hb : W'.heap[W.heap.size]? = some (.cells #[.int .i64 2, .int .i64 5, .int .i64 12, .int .i64 30] 3 (0, 0)) := by
    rw [h.2.2.2.2 W.heap.size (by omega)]
    exact heap_alloc_new W _
  rw [cell_cells hb]
  rcases (show v = 0 ∨ v = 1 ∨ v = 2 ∨ v = 3 by omega) with rfl | rfl | rfl | rfl
  · exact ⟨2, rfl, by omega, by omega⟩
  · exact ⟨5, rfl, by omega, by omega⟩
  · exact ⟨12, rfl, by omega, by omega⟩
  · exact ⟨30, rfl, by omega, by omega⟩
/-- what the draws of a square leave -/
def FarO (w : World) (B g : Nat) (u : Int) (e : Ending) (w' : World) : Prop :=
  ∃ b c n V D, e = .returned (.slice (some ⟨b, 0, none⟩) n c) ∧ 1 ≤ n ∧ n ≤ 6 ∧ ObjF w.heap.size w' (some ⟨b, 0, none⟩) c n D V ∧ BdN 0 30 n D ∧ RdU w' B g u ∧ ExtG g w w'
/-- the state of the filling loops -/
def FarS (w : World) (B g b c n : Nat) (V : Nat → Value) (u : Int) (wr : World) : Prop :=
  ∃ D, ObjF w.heap.size wr (some ⟨b, 0, none⟩) c n D V ∧ BdN 0 30 n D ∧ RdU wr B g u ∧ ExtG g w wr

set_option maxRecDepth 100000 in
set_option maxHeartbeats 4000000 in
theorem l20Far_any {w : World} {B g : Nat} {u : Int} (hR : RdU w B g u) (hB : B ≤ w.heap.size) (hu : u ≤ 500000) (most : Int) (h1 : 1 ≤ most) (h6 : most ≤ 6) :
    Calls Try.prog 25 #[.pointer (some ⟨g, 0, none⟩), .int .i64 most] w (FarO w B g (u + 50)) := by
  have hg := hR.lt
  have HR := Lib.hid hR
  clear hR
  go_enter Try.func25, Try.ntmps25
  go_wp2_with fail
  refine (pickU HR.out most (by omega) (by omega) (by omega)).mono ?_
  rintro e w1 ⟨v, rfl, v0, v1, hR1, hO1⟩
  have HR1 := Lib.hid hR1
  have HX1 := Lib.hid (show ExtG g w w1 from hO1.toG)
  have SZ1 := Lib.hid (show w1.heap.size = w.heap.size from hO1.2.2.2.1)
  clear hR1 hO1
  obtain ⟨n, hn⟩ : ∃ n : Nat, 1 + v = (n : Int) := ⟨(1 + v).toNat, by omega⟩
  obtain ⟨n1, n6⟩ : 1 ≤ n ∧ n ≤ 6 := by omega
  obtain rfl : v = (n : Int) - 1 := by omega
  clear hn v0 v1
  have hmk := run_make_row' (P := Try.prog) 28 3 (.int .i64 0) 8 Try.underlying28 infoI rfl .i64 .i64 n (by omega) (by omega)
  go_wp2
  rw [show (1 : Int) + ((n : Int) - 1) = (n : Int) by omega]
  go_loopg [6, 7] n (fun k s6 s7 wr => ∃ i : Nat, i + k = n ∧ s7 = .int .i64 i ∧ Hid (AccZ w1 wr s6 i n))
  case atStart => exact ⟨0, by omega, rfl, Lib.hid ⟨fun _ => .slice none 0 0, AccM.empty (Ext.refl _) _, fun j hj => absurd hj (by omega)⟩⟩
  case round =>
    obtain ⟨i, hi, rfl, HA⟩ := hrel
    by_cases hin : i < n
    · obtain ⟨k', rfl⟩ : ∃ g', gk = g' + 1 := ⟨gk - 1, by omega⟩
      have hin' : (i : Int) < (n : Nat) := by omega
      go_wp2_with (at_builtin; refine AccZ.push rfl Try.underlying23 infoR rfl (.tmp 22) (.tmp 25) rfl _ rfl rfl HA.out (by omega) (by omega) (by omega) ?_; intro v' w' hacc; have HA' := Lib.hid hacc; clear hacc)
      go_roundg k'
      case measure => omega
      case rel => exact ⟨i + 1, by omega, by go_num, HA'⟩
    · have hin' : ¬ (i : Int) < (n : Nat) := by omega
      obtain rfl : i = n := by omega
      clear hmk
      obtain ⟨A, c, V, rfl, hobj⟩ := HA.out.obj
      have hx := HA.out.x
      have s1 := hx.size
      have sz1 := SZ1.out
      have HO := Lib.hid hobj
      have HX2 := Lib.hid (HX1.out.on hx)
      have HR2 := Lib.hid (HR1.out.ext hx (by omega))
      obtain ⟨b, rfl⟩ := hobj.head (by omega)
      clear hobj hx HA
      go_wp2_with fail
      refine (pickU (HR2.out.ext (Ext.alloc _ _) (by omega)) 4 (by omega) (by omega) (by omega)).mono ?_
      rintro e w3 ⟨v2, rfl, v20, v21, hR3, hO3⟩
      obtain ⟨wide, hc, x1, x30⟩ := wide_cell hO3 (by omega) v20 v21
      have HS := Lib.hid (show FarS w B g b c i V (u + 2) w3 from ⟨_, by have := ((HO.out.ext (Ext.alloc _ _)).rd hO3 (by omega)); rw [sz1] at this; exact this, rep_bd i, by have := hR3.le (u' := u + 2) (by omega); exact this, (HX2.out.alloc _).rd hO3⟩)
      clear HO HX2 HR2 hR3 hO3 HX1 HR1 HR sz1
      go_wp2
      clear hc
      go_loopg [9] i (fun k s9 wr => ∃ r : Nat, r + k = i ∧ s9 = .int .i64 r ∧ Hid (FarS w B g b c i V (u + 2 + 6 * r) wr))
      case atStart => exact ⟨0, by omega, rfl, Lib.hid (by simpa using HS.out)⟩
      case round =>
        obtain ⟨r, hr, rfl, HS1⟩ := hrel
        by_cases hrn : r < i
        · obtain ⟨k1, rfl⟩ : ∃ g', gk = g' + 1 := ⟨gk - 1, by omega⟩
          have hrn' : (r : Int) < (i : Nat) := by omega
          go_wp2
          go_loopg [10] r (fun k s10 wr => ∃ j : Nat, j + k = r ∧ s10 = .int .i64 j ∧ Hid (FarS w B g b c i V (u + 2 + 6 * r + j) wr))
          case atStart => exact ⟨0, by omega, rfl, Lib.hid (by simpa using HS1.out)⟩
          case round =>
            obtain ⟨j, hj, rfl, HS2⟩ := hrel
            by_cases hjr : j < r
            · obtain ⟨k2, rfl⟩ : ∃ g', gk = g' + 1 := ⟨gk - 1, by omega⟩
              have hjr' : (j : Int) < (r : Nat) := by omega
              have hji' : (j : Int) < (i : Nat) := by omega
              obtain ⟨D, hO, hbd, hR, hX⟩ := HS2.out
              have HO := Lib.hid hO
              have HB := Lib.hid hbd
              have HX := Lib.hid hX
              clear hO hbd hX
              go_wp2_with fail
              refine (pickU hR wide (by omega) (by omega) (by omega)).mono ?_
              rintro e w4 ⟨v4, rfl, v40, v41, hR4, hO4⟩
              have hob := HO.out.rd hO4 (by omega)
              obtain ⟨q, cr, hq⟩ := hob.sq
              obtain ⟨a1, a2, a3, a4, a5⟩ := hq r (by omega)
              obtain ⟨c1, f1, S1⟩ := a5 j (by omega)
              obtain ⟨q2, cr2, hq2⟩ := (S1 (1 + v4)).sq
              obtain ⟨d1, d2, d3, d4, d5⟩ := hq2 j (by omega)
              obtain ⟨c2, f2, S2⟩ := d5 r (by omega)
              have hlast := S2 (1 + v4)
              have HN := Lib.hid (show FarS w B g b c i V (u + 2 + 6 * r + (j + 1 : Nat)) ((w4.setCell ⟨q r, j, none⟩ (.int .i64 (1 + v4))).setCell ⟨q2 j, r, none⟩ (.int .i64 (1 + v4))) from
                ⟨_, hlast, (HB.out.set2 hob.2.1 hob.2.2.1 (by omega) (by omega) (by omega) (by omega)).set2 (hob.2.1.set2 (by rw [hob.2.2.1]; omega) _) (by rw [set2_len]; exact hob.2.2.1) (by omega) (by omega) (by omega) (by omega),
                  by have := ((hR4.set (p := ⟨q r, j, none⟩) (by show B ≤ q r; omega) (.int .i64 (1 + v4))).set (p := ⟨q2 j, r, none⟩) (by show B ≤ q2 j; omega) (.int .i64 (1 + v4))).le (u' := u + 2 + 6 * r + (j + 1 : Nat)) (by omega); exact this,
                  ((HX.out.rd hO4).set (p := ⟨q r, j, none⟩) a4 _).set (p := ⟨q2 j, r, none⟩) d4 _⟩)
              clear hob hq a5 hq2 d5 S1 S2 hlast hR4 hO4 HS2 HS1 HS HO HB HX hR
              go_wp2
              go_roundg k2
              case measure => omega
              case rel => exact ⟨j + 1, by omega, by go_num, HN⟩
            · have hjr' : ¬ (j : Int) < (r : Nat) := by omega
              obtain rfl : j = r := by omega
              go_wp2
              go_roundg k1
              case measure => omega
              case rel =>
                refine ⟨j + 1, by omega, by go_num, Lib.hid ?_⟩
                obtain ⟨D, hO, hbd, hR, hX⟩ := HS2.out
                exact ⟨D, hO, hbd, hR.le (by omega), hX⟩
        · have hrn' : ¬ (r : Int) < (i : Nat) := by omega
          go_wp2
          go_ret
          obtain ⟨D, hO, hbd, hR, hX⟩ := HS1.out
          exact ⟨b, c, i, V, D, rfl, by omega, by omega, hO, hbd, hR.le (by omega), hX⟩
/-- the state of the shortening loops -/
def ShS (w : World) (base b c n : Nat) (V : Nat → Value) (wr : World) : Prop :=
  ∃ D, ObjF base wr (some ⟨b, 0, none⟩) c n D V ∧ BdN 0 30 n D ∧ Below base w wr
set_option maxRecDepth 100000 in
set_option maxHeartbeats 4000000 in
theorem l20Closed_any {w : World} {base b c n : Nat} {D : List (List Int)} {V : Nat → Value} (h : ObjF base w (some ⟨b, 0, none⟩) c n D V) (hbd : BdN 0 30 n D) (h1 : 1 ≤ n) (h6 : n ≤ 6) :
    Calls Try.prog 24 #[.slice (some ⟨b, 0, none⟩) n c] w fun e w' => e = .returned (.slice (some ⟨b, 0, none⟩) n c) ∧ ShS w base b c n V w' := by
  have HS := Lib.hid (show ShS w base b c n V w from ⟨D, h, hbd, Below.refl _ _⟩)
  have hcap : n ≤ c ∧ c ≤ maxLen := ⟨by have := h.1.1; rw [h.2.2.1] at this; exact this, h.1.2.1⟩
  obtain ⟨hc1, hc2⟩ := hcap
  unfold maxLen at hc2
  clear h hbd
  go_enter Try.func24, Try.ntmps24
  go_wp2
  go_loopg [3] n (fun k s3 wr => ∃ m : Nat, m + k = n ∧ s3 = .int .i64 m ∧ Hid (ShS w base b c n V wr))
  case atStart => exact ⟨0, by omega, rfl, HS⟩
  case round =>
    obtain ⟨m, hm, rfl, HS1⟩ := hrel
    clear HS
    by_cases hmn : m < n
    · obtain ⟨g1, rfl⟩ : ∃ g', gk = g' + 1 := ⟨gk - 1, by omega⟩
      have hmn' : (m : Int) < (n : Nat) := by omega
      go_wp2
      go_loopg [4] n (fun k s4 wr => ∃ i : Nat, i + k = n ∧ s4 = .int .i64 i ∧ Hid (ShS w base b c n V wr))
      case atStart => exact ⟨0, by omega, rfl, HS1⟩
      case round =>
        obtain ⟨i, hi, rfl, HS2⟩ := hrel
        clear HS1
        by_cases hin : i < n
        · obtain ⟨g2, rfl⟩ : ∃ g', gk = g' + 1 := ⟨gk - 1, by omega⟩
          have hin' : (i : Int) < (n : Nat) := by omega
          go_wp2
          go_loopg [5] n (fun k s5 wr => ∃ j : Nat, j + k = n ∧ s5 = .int .i64 j ∧ Hid (ShS w base b c n V wr))
          case atStart => exact ⟨0, by omega, rfl, HS2⟩
          case round =>
            obtain ⟨j, hj, rfl, HS3⟩ := hrel
            clear HS2
            by_cases hjn : j < n
            · obtain ⟨g3, rfl⟩ : ∃ g', gk = g' + 1 := ⟨gk - 1, by omega⟩
              have hjn' : (j : Int) < (n : Nat) := by omega
              obtain ⟨E, hO, hbd, hX⟩ := HS3.out
              obtain ⟨q, cr, hq⟩ := hO.sq
              obtain ⟨a1, a2, a3, a4, a5⟩ := hq i hin
              obtain ⟨b1, b2, b3, b4, b5⟩ := hq m hmn
              obtain ⟨c1, f1, S1⟩ := a5 j hjn
              obtain ⟨c2, f2, -⟩ := a5 m hmn
              obtain ⟨c3, f3, -⟩ := b5 j hjn
              obtain ⟨t1, t1'⟩ := hbd i hin j hjn
              obtain ⟨t2, t2'⟩ := hbd i hin m hmn
              obtain ⟨t3, t3'⟩ := hbd m hmn j hjn
              have key : ∀ x : Int, 0 ≤ x → x ≤ 30 → ShS w base b c n V (wr.drew.setCell ⟨q i, j, none⟩ (.int .i64 x)) := fun x x0 x1 => ⟨_, S1 x, hbd.set2 hO.2.1 hO.2.2.1 hin hjn x0 x1, (hX.drew).setCell a4 _⟩
              have HK := Lib.hid key
              have HC := Lib.hid (And.intro c1 (And.intro c2 (And.intro c3 (And.intro a1 (And.intro b1 f1)))))
              unfold maxLen at a3 b3
              clear key S1 hO hbd hX hq a5 b5 HS3 c1 c2 c3 a1 b1 f1 f2 f3
              go_wp2_with fail
              obtain ⟨c1, c2, c3, a1, b1, f1⟩ := HC.out
              go_still_tail 29, (by kernel_rfl)
              all_goals
                change wpList _ _ _ _ _ wr.drew
                go_wp2
                all_goals
                  go_roundg g3
                  case measure => omega
                  case rel =>
                    refine ⟨j + 1, by omega, by go_num, Lib.hid (HK.out _ ?_ ?_)⟩
                    all_goals first | omega | (rw [IntWalk.i64_in _ ⟨by omega, by omega⟩]; omega)
            · have hjn' : ¬ (j : Int) < (n : Nat) := by omega
              go_wp2
              go_roundg g2
              case measure => omega
              case rel => exact ⟨i + 1, by omega, by go_num, HS3⟩
        · have hin' : ¬ (i : Int) < (n : Nat) := by omega
          go_wp2
          go_roundg g1
          case measure => omega
          case rel => exact ⟨m + 1, by omega, by go_num, HS2⟩
    · have hmn' : ¬ (m : Int) < (n : Nat) := by omega
      go_wp2
      go_ret
      exact ⟨rfl, HS1.out⟩
end Go.Proofs.Ytpkiodpocggfbaa
