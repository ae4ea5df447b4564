/- What is proved: CaterpillarOf returns rows in memory of its own, at most six. Conditions: those of the contract. -/
import Derived.Test.YtjaigidlpfdfiaaDrSpc
namespace Go.Proofs.Ytjaigidlpfdfiaa
open Go.RowKit

/-- what CaterpillarOf leaves -/
def CatO (w : World) (e : Ending) (w' : World) : Prop :=
  ∃ A c V D b, e = .returned (.tuple #[.slice A (List.length D) c, .bool b]) ∧ ObjM w.heap.size w' A c D V ∧ D.length ≤ 6 ∧ Ext w w'
/-- a row of j numbers under way -/
def RowAcc (w0 : World) (v : Value) (j : Nat) (W : World) : Prop := ∃ xs : List Int, xs.length = j ∧ Acc w0 W 3 v (xs.map (Value.int .i64))
theorem RowAcc.x {w0 W : World} {v : Value} {j : Nat} (h : RowAcc w0 v j W) : Ext w0 W := by
  obtain ⟨xs, _, h1⟩ := h
  exact h1.1
theorem RowAcc.on {w0 W W' : World} {v : Value} {j : Nat} (h : RowAcc w0 v j W) (x : Ext W W') : RowAcc w0 v j W' := by
  obtain ⟨xs, h0, h1⟩ := h
  exact ⟨xs, h0, h1.on x⟩
/-- a row under way -/
theorem row_push {P : Program} {ops : Array Oper} {rest : List Oper} {o : Oper} {a : Act} {Q : Exit → Act → World → Prop} {w0 W : World} {T E : TypeId} {y : Int} {k : Nat} (hE : E = 3)
    (ht : P.underlying T = some (.slice E)) (hinfo : (P.info? E).map (fun i => (i.zero, i.size, i.bytes)) = some (some (.int .i64 0), 1, 8))
    (hgd : o.guard = none) (s x : Operand) (ho : o.op = .call { callee := .builtin .append, args := #[s, x], argTypes := #[T, T] })
    (v : Value) (hs : a.eval s = v) (hx : a.eval x = .slice (some ⟨W.heap.size, 0, none⟩) 1 1) (h : RowAcc w0 v k W) (hl : k ≤ 1000)
    (hk : ∀ v' w', RowAcc w0 v' (k + 1) w' → wpList P ops Q rest (a.put o.dst v') w') :
    wpList P ops Q (o :: rest) a (W.alloc (.cells #[.int .i64 y] E)) := by
  subst hE
  obtain ⟨xs, rfl, hacc⟩ := h
  refine wp_app ht hinfo rfl (by decide) hgd s x ho v (.int .i64 y) _ hs hx rfl hacc (by simp; omega) fun v' w' ha hb hst => hk v' w' ⟨xs ++ [y], by simp, ?_⟩
  rw [List.map_append]
  exact ha
/-- rows under way: how many -/
def RowsN (w0 W : World) (v : Value) (k : Nat) : Prop := ∃ D V, D.length = k ∧ AccM w0 W v D V
theorem RowsN.x {w0 W : World} {v : Value} {k : Nat} (h : RowsN w0 W v k) : Ext w0 W := by
  obtain ⟨D, V, _, h1⟩ := h
  exact h1.x
theorem RowsN.on {w0 W W' : World} {v : Value} {k : Nat} (h : RowsN w0 W v k) (x : Ext W W') : RowsN w0 W' v k := by
  obtain ⟨D, V, h0, h1⟩ := h
  exact ⟨D, V, h0, h1.on x⟩
theorem RowsN.push {P : Program} {ops : Array Oper} {rest : List Oper} {o : Oper} {a : Act} {Q : Exit → Act → World → Prop} {w0 wr W : World} {T E : TypeId} {k m : Nat} {r : Value} (hE : E = 39)
    (ht : P.underlying T = some (.slice E)) (hinfo : (P.info? E).map (fun i => (i.zero, i.size, i.bytes)) = some (some (.slice none 0 0), 1, 24))
    (hgd : o.guard = none) (s x : Operand) (ho : o.op = .call { callee := .builtin .append, args := #[s, x], argTypes := #[T, T] })
    (v : Value) (hs : a.eval s = v) (hx : a.eval x = .slice (some ⟨W.heap.size, 0, none⟩) 1 1) (h : RowsN w0 wr v k) (hr : ∃ xs : List Int, xs.length = m ∧ Acc wr W 3 r (xs.map (Value.int .i64))) (hl : k ≤ 1000)
    (hk : ∀ v' w', RowsN w0 w' v' (k + 1) → wpList P ops Q rest (a.put o.dst v') w') :
    wpList P ops Q (o :: rest) a (W.alloc (.cells #[r] E)) := by
  obtain ⟨D, V, rfl, h1⟩ := h
  obtain ⟨xs, -, hacc⟩ := hr
  have hlt : ∀ i, i < D.length → ∀ g ∈ lb (V i), g < wr.heap.size := fun i hi g hg => (h1.2.1 i hi).lt hg
  have hx0 := h1.x.size
  obtain ⟨hleaf, hge⟩ := Leaf.of_own hacc.2
  obtain ⟨Ar, cr, rfl, _⟩ := hleaf.ints
  exact wp_appM hE ht hinfo hgd s x ho v _ D xs V hs hx rfl (h1.on hacc.1) hleaf (fun g hg => ⟨by have := hge g hg; omega, fun i hi hg' => by have := hlt i hi g hg'; have := hge g hg; omega⟩) (by omega)
    fun v' w' ha => hk v' w' ⟨_, _, by simp, ha⟩

set_option maxRecDepth 100000 in
set_option maxHeartbeats 8000000 in
theorem CaterpillarOf_any (A : Option Addr) (ca : Nat) (xs : List Int) (B : Option Addr) (cb : Nat) (ys : List Int) (w : World) (hx : Ints w A ca xs) (hy : Ints w B cb ys) (hl : xs.length + 1 = ys.length) (h2 : 2 ≤ ys.length) (h6 : ys.length ≤ 6)
    (hxb : ∀ i, i < xs.length → 0 ≤ ix xs i ∧ ix xs i ≤ 60) (hyb : ∀ i, i < ys.length → 1 ≤ ix ys i ∧ ix ys i ≤ 60) :
    Calls Try.prog 58 #[.slice A xs.length ca, .slice B ys.length cb] w (CatO w) := by
  obtain ⟨l1, l2, b1, o1, hA, hc1⟩ := hx
  obtain ⟨l3, l4, b2, o2, hB, hc2⟩ := hy
  unfold maxLen at l2 l4
  obtain rfl := hA (by omega)
  obtain rfl := hB (by omega)
  have hl' : (xs.length : Int) = (ys.length : Int) - 1 := by omega
  have e1 : inB (ys.length : Int) 2 6 = true := decide_eq_true (by omega)
  have HX := Lib.hid hxb
  have HY := Lib.hid hyb
  have HC1 := Lib.hid hc1
  have HC2 := Lib.hid hc2
  clear hxb hyb hc1 hc2 hA hB
  go_enter Try.func58, Try.ntmps58
  go_wp2_with (go_at_call 39; refine (l1In_any _ _ _ _).mono ?_; rintro e w' ⟨rfl, rfl⟩)
  go_loopg [7] ys.length (fun g s7 wr => ∃ k : Nat, k + g = ys.length ∧ s7 = .int .i64 k ∧ Hid (Ext w wr) ∧ Hid (RowsN w wr (.slice (some ⟨w.heap.size, 0, none⟩) 0 0) 0))
  case atStart => exact ⟨0, by omega, rfl, Lib.hid (Ext.alloc _ _), Lib.hid ⟨[], fun _ => .slice none 0 0, rfl, AccM.empty (Ext.refl _) _⟩⟩
  case round =>
    obtain ⟨k, hk, rfl, HE, HN⟩ := hrel
    by_cases hkn : k < ys.length
    · obtain ⟨g1, rfl⟩ : ∃ g', gk = g' + 1 := ⟨gk - 1, by omega⟩
      have hkn' : (k : Int) < (ys.length : Nat) := by omega
      have c1 := HE.out.cell (HC2.out k hkn)
      have i1 : inB (ix ys k) 1 60 = true := decide_eq_true (HY.out k hkn)
      by_cases k0 : 0 < k
      · have k0' : (0 : Int) < (k : Nat) := by omega
        obtain ⟨j, rfl⟩ : ∃ j, k = j + 1 := ⟨k - 1, by omega⟩
        have c2 := HE.out.cell (HC1.out j (by omega))
        have i2 : inB (ix xs j) 0 60 = true := decide_eq_true (HX.out j (by omega))
        have hj : (((j + 1 : Nat) : Int) - 1) = (j : Int) := by omega
        go_wp2_with (go_at_call 39; refine (l1In_any _ _ _ _).mono ?_; rintro e w' ⟨rfl, rfl⟩)
        go_roundg g1
        case measure => omega
        case rel => exact ⟨j + 1 + 1, by omega, by go_num, HE, HN⟩
      · obtain rfl : k = 0 := by omega
        rw [Nat.add_zero] at c1
        go_wp2_with (go_at_call 39; refine (l1In_any _ _ _ _).mono ?_; rintro e w' ⟨rfl, rfl⟩)
        go_roundg g1
        case measure => omega
        case rel => exact ⟨0 + 1, by omega, by go_num, HE, HN⟩
    · have hkn' : ¬ (k : Int) < (ys.length : Nat) := by omega
      have HN0 := HN
      go_wp2
      clear HN hk hkn hkn' HX HY
      go_loopg [6, 8] ys.length (fun g s6 s8 wq => ∃ k : Nat, k + g = ys.length ∧ s8 = .int .i64 k ∧ Hid (RowsN w wq s6 k))
      case atStart => exact ⟨0, by omega, rfl, HN0⟩
      case round =>
        obtain ⟨k, hk, rfl, HN⟩ := hrel
        clear HN0
        by_cases hkn : k < ys.length
        · obtain ⟨g1, rfl⟩ : ∃ g', gk = g' + 1 := ⟨gk - 1, by omega⟩
          have hkn' : (k : Int) < (ys.length : Nat) := by omega
          obtain ⟨wq, hq⟩ : ∃ wq : World, wq = wr := ⟨_, rfl⟩
          subst hq
          go_wp2
          go_loopg [9, 10] ys.length (fun gm s9 s10 wr => ∃ j : Nat, j + gm = ys.length ∧ s10 = .int .i64 j ∧ Hid (RowAcc wq s9 j wr))
          case atStart => exact ⟨0, by omega, rfl, Lib.hid ⟨[], rfl, Acc.empty _ (Ext.refl _)⟩⟩
          case round =>
            obtain ⟨j, hj, rfl, HROW⟩ := hrel
            have hEx : Ext w wr := HN.out.x.trans HROW.out.x
            by_cases hjn : j < ys.length
            · obtain ⟨g2, rfl⟩ : ∃ g', gk = g' + 1 := ⟨gk - 1, by omega⟩
              have hjn' : (j : Int) < (ys.length : Nat) := by omega
              rcases Nat.lt_trichotomy k j with hkj | hkj | hkj
              · have hkj1 : (k : Int) < (j : Nat) := by omega
                have hkj2 : ¬ (j : Int) < (k : Nat) := by omega
                have hkj3 : ((k : Int) != (j : Int)) = true := by simp; omega
                go_wp2
                go_loopg [11, 12] (j - k) (fun gm s11 s12 wx => ∃ (m : Nat) (z : Int), m + gm = j ∧ k ≤ m ∧ s12 = .int .i64 m ∧ s11 = .int .i64 z ∧ wx = wr)
                case atStart => exact ⟨k, 0, by omega, Nat.le_refl _, rfl, rfl, rfl⟩
                case round =>
                  obtain ⟨m, z, hm, hlo, rfl, rfl, rfl⟩ := hrel
                  by_cases hmn : m < j
                  · obtain ⟨g3, rfl⟩ : ∃ g', gk = g' + 1 := ⟨gk - 1, by omega⟩
                    have hmn' : (m : Int) < (j : Nat) := by omega
                    have hmx' : (m : Int) < (xs.length : Nat) := by omega
                    have c1 := hEx.cell (HC1.out m (by omega))
                    go_wp2
                    go_roundg g3
                    case measure => omega
                    case rel => exact ⟨m + 1, _, by omega, by omega, by go_num, rfl, rfl⟩
                  · have hmn' : ¬ (m : Int) < (j : Nat) := by omega
                    have c2 := hEx.cell (HC2.out k hkn)
                    have c3 := hEx.cell (HC2.out j hjn)
                    go_wp2
                    go_quiet (fail)
                    go_wp2_with (at_builtin; refine row_push rfl Try.underlying39 infoI rfl (.tmp 96) (.tmp 98) rfl _ rfl rfl (RowAcc.on HROW.out (Ext.drewN _ _)) (by omega) ?_; intro v' w' hacc; have HR' := Lib.hid hacc; clear hacc)
                    go_roundg g2
                    case measure => omega
                    case rel => exact ⟨j + 1, by omega, by go_num, HR'⟩
              · subst hkj
                go_wp2
                go_loopg [11, 12] (k - k) (fun gm s11 s12 wx => ∃ (m : Nat) (z : Int), m + gm = k ∧ k ≤ m ∧ s12 = .int .i64 m ∧ s11 = .int .i64 z ∧ wx = wr)
                case atStart => exact ⟨k, 0, by omega, Nat.le_refl _, rfl, rfl, rfl⟩
                case round =>
                  obtain ⟨m, z, hm, hlo, rfl, rfl, rfl⟩ := hrel
                  by_cases hmn : m < k
                  · obtain ⟨g3, rfl⟩ : ∃ g', gk = g' + 1 := ⟨gk - 1, by omega⟩
                    have hmn' : (m : Int) < (k : Nat) := by omega
                    have hmx' : (m : Int) < (xs.length : Nat) := by omega
                    have c1 := hEx.cell (HC1.out m (by omega))
                    go_wp2
                    go_roundg g3
                    case measure => omega
                    case rel => exact ⟨m + 1, _, by omega, by omega, by go_num, rfl, rfl⟩
                  · have hmn' : ¬ (m : Int) < (k : Nat) := by omega
                    have c2 := hEx.cell (HC2.out k hkn)
                    have c3 := hEx.cell (HC2.out k hkn)
                    go_wp2_with (at_builtin; refine row_push rfl Try.underlying39 infoI rfl (.tmp 96) (.tmp 98) rfl _ rfl rfl HROW.out (by omega) ?_; intro v' w' hacc; have HR' := Lib.hid hacc; clear hacc)
                    go_roundg g2
                    case measure => omega
                    case rel => exact ⟨k + 1, by omega, by go_num, HR'⟩
              · have hkj1 : (j : Int) < (k : Nat) := by omega
                have hkj2 : ¬ (k : Int) < (j : Nat) := by omega
                have hkj3 : ((k : Int) != (j : Int)) = true := by simp; omega
                go_wp2
                go_loopg [11, 12] (k - j) (fun gm s11 s12 wx => ∃ (m : Nat) (z : Int), m + gm = k ∧ j ≤ m ∧ s12 = .int .i64 m ∧ s11 = .int .i64 z ∧ wx = wr)
                case atStart => exact ⟨j, 0, by omega, Nat.le_refl _, rfl, rfl, rfl⟩
                case round =>
                  obtain ⟨m, z, hm, hlo, rfl, rfl, rfl⟩ := hrel
                  by_cases hmn : m < k
                  · obtain ⟨g3, rfl⟩ : ∃ g', gk = g' + 1 := ⟨gk - 1, by omega⟩
                    have hmn' : (m : Int) < (k : Nat) := by omega
                    have hmx' : (m : Int) < (xs.length : Nat) := by omega
                    have c1 := hEx.cell (HC1.out m (by omega))
                    go_wp2
                    go_roundg g3
                    case measure => omega
                    case rel => exact ⟨m + 1, _, by omega, by omega, by go_num, rfl, rfl⟩
                  · have hmn' : ¬ (m : Int) < (k : Nat) := by omega
                    have c2 := hEx.cell (HC2.out k hkn)
                    have c3 := hEx.cell (HC2.out j hjn)
                    go_wp2
                    go_quiet (fail)
                    go_wp2_with (at_builtin; refine row_push rfl Try.underlying39 infoI rfl (.tmp 96) (.tmp 98) rfl _ rfl rfl (RowAcc.on HROW.out (Ext.drewN _ _)) (by omega) ?_; intro v' w' hacc; have HR' := Lib.hid hacc; clear hacc)
                    go_roundg g2
                    case measure => omega
                    case rel => exact ⟨j + 1, by omega, by go_num, HR'⟩
            · have hjn' : ¬ (j : Int) < (ys.length : Nat) := by omega
              obtain ⟨zs, -, hacc⟩ := HROW.out
              obtain ⟨Ar, cr, rfl, -⟩ := (Leaf.of_own hacc.2).1.ints
              have HAC := Lib.hid hacc
              clear hacc
              go_wp2_with (at_builtin; refine RowsN.push (m := zs.length) rfl Try.underlying23 infoR rfl (.tmp 100) (.tmp 102) rfl _ rfl rfl HN.out ⟨zs, rfl, HAC.out⟩ (by omega) ?_; intro v' w' hacc; have HN' := Lib.hid hacc; clear hacc)
              go_roundg g1
              case measure => omega
              case rel => exact ⟨k + 1, by omega, by go_num, HN'⟩
        · have hkn' : ¬ (k : Int) < (ys.length : Nat) := by omega
          obtain ⟨D, V, hD, hacc⟩ := HN.out
          have hx0 := hacc.x
          obtain ⟨A, c, rfl, hob⟩ := hacc.obj
          have HO := Lib.hid hob
          have HX0 := Lib.hid hx0
          have HD := Lib.hid (show D.length ≤ 6 by omega)
          clear hacc hob hx0 HN hD
          go_wp2_with fail
          refine (SpaceOk_any A c D _ HO.out.mat).mono ?_
          rintro e w2 ⟨rfl, m2, rfl⟩
          cases hs : spB D with
          | true =>
            go_wp2
            go_ret2
            exact ⟨A, c, V, D, true, rfl, HO.out.ext (Ext.drewN _ _), HD.out, HX0.out.drewN' _⟩
          | false =>
            go_wp2
            go_ret2
            exact ⟨_, 0, V, [], false, rfl, ObjM.nil _ _ _ _ (Nat.zero_le _) _, by simp, (HX0.out.drewN' _).alloc' _⟩

end Go.Proofs.Ytjaigidlpfdfiaa
