/- What is proved: l20Tree draws rows in memory of its own, at most six. Conditions: those of the contract. -/
import Derived.Test.YtjaigidlpfdfiaaCat
namespace Go.Proofs.Ytjaigidlpfdfiaa
open Go.RowKit
/-- a list of numbers of one's own, under way -/
def OwnI (base : Nat) (W : World) (v : Value) (xs : List Int) : Prop := W.ownsRow base 3 1 v (xs.map (Value.int .i64)).length (xs.map (Value.int .i64))
theorem OwnI.keep {base : Nat} {W W' : World} {v : Value} {xs : List Int} (h : OwnI base W v xs) (k : ∀ q, v.ownBlock = some q → q < W.heap.size → W'.heap[q]? = W.heap[q]?) : OwnI base W' v xs := by
  obtain ⟨h1, h2⟩ := h
  refine ⟨h1, ?_⟩
  rcases h2 with h3 | ⟨g, cap, cur, rfl, e2, e3, e4⟩
  · exact .inl h3
  · exact .inr ⟨g, cap, cur, rfl, e2, (k g rfl (heap_lt e3)).trans e3, e4⟩
theorem OwnI.ge {base : Nat} {W : World} {v : Value} {xs : List Int} (h : OwnI base W v xs) {q : Nat} (hq : v.ownBlock = some q) : base ≤ q ∧ q < W.heap.size := h.lt q hq
theorem OwnI.leaf {base : Nat} {W : World} {v : Value} {xs : List Int} (h : OwnI base W v xs) : Leaf W v xs ∧ ∀ g ∈ lb v, base ≤ g := Leaf.of_own h
/-- two lists under way, apart -/
def TwoI (w : World) (B g : Nat) (u : Int) (v s : Value) (xs ys : List Int) (W : World) : Prop :=
  OwnI w.heap.size W v xs ∧ OwnI w.heap.size W s ys ∧ (∀ q, v.ownBlock = some q → s.ownBlock ≠ some q) ∧ RdU W B g u ∧ ExtG g w W
theorem TwoI.swap {w W : World} {B g : Nat} {u : Int} {v s : Value} {xs ys : List Int} (h : TwoI w B g u v s xs ys W) : TwoI w B g u s v ys xs W :=
  ⟨h.2.1, h.1, fun q h1 h2 => h.2.2.1 q h2 h1, h.2.2.2.1, h.2.2.2.2⟩
theorem TwoI.rd {w W W' : World} {B g : Nat} {u u' : Int} {v s : Value} {xs ys : List Int} (h : TwoI w B g u v s xs ys W) (hO : Only (fun x => x = g) W W') (hR : RdU W' B g u') (hB : B ≤ w.heap.size) : TwoI w B g u' v s xs ys W' := by
  obtain ⟨h1, h2, h3, h4, h5⟩ := h
  have hg := hR.lt
  exact ⟨h1.keep fun q hq _ => hO.2.2.2.2 q (by have := (h1.ge hq).1; omega), h2.keep fun q hq _ => hO.2.2.2.2 q (by have := (h2.ge hq).1; omega), h3, hR, h5.rd hO⟩
theorem TwoI.le {w W : World} {B g : Nat} {u u' : Int} {v s : Value} {xs ys : List Int} (h : TwoI w B g u v s xs ys W) (k : u ≤ u') : TwoI w B g u' v s xs ys W := by
  obtain ⟨h1, h2, h3, h4, h5⟩ := h
  exact ⟨h1, h2, h3, h4.le k, h5⟩
theorem TwoI.push {P : Program} {ops : Array Oper} {rest : List Oper} {o : Oper} {a : Act} {Q : Exit → Act → World → Prop} {w W : World} {T E : TypeId} {B g : Nat} {u : Int} {y : Int} {xs ys : List Int} {s' : Value} (hE : E = 3)
    (ht : P.underlying T = some (.slice E)) (hinfo : (P.info? E).map (fun i => (i.zero, i.size, i.bytes)) = some (some (.int .i64 0), 1, 8))
    (hgd : o.guard = none) (s x : Operand) (ho : o.op = .call { callee := .builtin .append, args := #[s, x], argTypes := #[T, T] })
    (v : Value) (hs : a.eval s = v) (hx : a.eval x = .slice (some ⟨W.heap.size, 0, none⟩) 1 1) (h : TwoI w B g u v s' xs ys W) (hB : B ≤ w.heap.size) (hl : xs.length ≤ 1000)
    (hk : ∀ v' w', TwoI w B g u v' s' (xs ++ [y]) ys w' → wpList P ops Q rest (a.put o.dst v') w') :
    wpList P ops Q (o :: rest) a (W.alloc (.cells #[.int .i64 y] E)) := by
  subst hE
  obtain ⟨h1, h2, h3, h4, h5⟩ := h
  have hbase : w.heap.size ≤ W.heap.size := h5.size
  have hacc : Acc (cutW W w.heap.size) W 3 v (xs.map (Value.int .i64)) := ⟨cut_ext hbase, by rw [cut_size hbase]; exact h1⟩
  refine wp_app ht hinfo rfl (by decide) hgd s x ho v (.int .i64 y) _ hs hx rfl hacc (by simp; omega) fun v' w' ha hb hst => hk v' w' ⟨?_, ?_, fun q hq hq' => ?_, h4.cut ha.1 hbase hB, h5.cut ha.1 hbase (Nat.le_refl _)⟩
  · have ha2 := ha.2
    rw [cut_size hbase] at ha2
    unfold OwnI
    rw [List.map_append]
    exact ha2
  · exact h2.keep fun q hq hlt => hb.2 q hlt fun e => h3 q e.symm hq
  · rcases hst with k | k
    · rw [k] at hq; exact h3 q hq hq'
    · rw [k] at hq; injection hq with hq; subst hq
      have := (h2.ge hq').2
      omega

/-- two new lists -/
theorem two_start {w w1 : World} {B g : Nat} {u : Int} (hR0 : RdU w B g u) (hO : Only (fun x => x = g) ((w.alloc (.cells #[] 3)).alloc (.cells #[] 3)) w1) (hR : RdU w1 B g (u + 1)) (hB : B ≤ w.heap.size) :
    TwoI w B g (u + 1 + 2 * (([] : List Int).length : Int)) (.slice (some ⟨w.heap.size, 0, none⟩) 0 0) (.slice (some ⟨w.heap.size + 1, 0, none⟩) 0 0) [] [] w1 := by
  have hg := hR.lt
  have h1 : OwnI w.heap.size (w.alloc (.cells #[] 3)) (.slice (some ⟨w.heap.size, 0, none⟩) 0 0) [] := World.ownsRow_made w #[] 0 (Nat.le_refl _) (Nat.zero_le _) rfl
  have h2 : OwnI w.heap.size ((w.alloc (.cells #[] 3)).alloc (.cells #[] 3)) (.slice (some ⟨w.heap.size + 1, 0, none⟩) 0 0) [] := by
    have h : ((w.alloc (.cells #[] 3)).alloc (.cells #[] 3)).ownsRow w.heap.size 3 1 (.slice (some ⟨(w.alloc (.cells #[] 3)).heap.size, 0, none⟩) 0 0) 0 [] := World.ownsRow_made (w.alloc (.cells #[] 3)) #[] 0 (by simp) (Nat.zero_le _) rfl
    simpa [OwnI] using h
  refine TwoI.rd (u := u) ⟨h1.keep fun q hq hlt => Below.heap_alloc _ _ _ hlt, h2, fun q h3 h4 => ?_, ?_, ((ExtG.refl g w).alloc _).alloc _⟩ hO (by simpa using hR) hB
  · simp [Value.ownBlock] at h3 h4; omega
  · exact hR0.ext ((Ext.alloc _ _).trans (Ext.alloc _ _)) hB
/-- all numbers between a and b -/
def AllIn (a b : Int) (xs : List Int) : Prop := ∀ i, i < xs.length → a ≤ ix xs i ∧ ix xs i ≤ b
theorem AllIn.push {a b : Int} {xs : List Int} (h : AllIn a b xs) {y : Int} (h0 : a ≤ y) (h1 : y ≤ b) : AllIn a b (xs ++ [y]) := fun i hi => by
  simp only [List.length_append, List.length_singleton] at hi
  by_cases e : i < xs.length
  · have := h i e
    rw [ix_of (by simp; omega), List.getElem_append_left e, ← ix_of e]; exact this
  · rw [ix_of (by simp; omega), List.getElem_append_right (by omega)]
    simp; omega
/-- the state of the drawing loop -/
def TrS (w : World) (B g : Nat) (u : Int) (K gm : Nat) (v s : Value) (W : World) : Prop :=
  ∃ xs ys, xs.length + gm = K ∧ (ys.length = xs.length ∧ 0 < gm ∨ ys.length + 1 = xs.length ∧ gm = 0) ∧ AllIn 1 5 xs ∧ AllIn 0 5 ys ∧ TwoI w B g (u + 1 + 2 * xs.length) v s xs ys W
set_option maxRecDepth 100000 in
set_option maxHeartbeats 8000000 in
theorem l20Tree_any {w : World} {B g : Nat} {u : Int} (hR : RdU w B g u) (hB : B ≤ w.heap.size) (hu : u ≤ 300000) (n : Int) (n0 : -1000 ≤ n) (n1 : n ≤ 1000) :
    Calls Try.prog 60 #[.pointer (some ⟨g, 0, none⟩), .int .i64 n] w (DrawnM w B g (u + 90)) := by
  have hg := hR.lt
  have HR := Lib.hid hR
  clear hR
  go_enter Try.func60, Try.ntmps60
  go_wp2_with fail
  refine (pickU (HR.out.ext (by repeat (first | exact Ext.refl _ | assumption | apply Ext.drewN' | apply Ext.alloc' | refine Ext.trans ?_ (by assumption))) (by omega)) 5 (by omega) (by omega) (by omega)).mono ?_
  rintro e w1 ⟨v, rfl, v0, v1, hR1, hO1⟩
  have HS := Lib.hid (show ∀ K : Nat, 0 < K → TrS w B g u K K (.slice (some ⟨w.heap.size, 0, none⟩) 0 0) (.slice (some ⟨w.heap.size + 1, 0, none⟩) 0 0) w1 from fun K hK =>
    ⟨[], [], by simp, .inl ⟨rfl, hK⟩, fun i hi => absurd hi (by simp), fun i hi => absurd hi (by simp), two_start HR.out hO1 hR1 hB⟩)
  clear hR1 hO1
  obtain ⟨K, hK⟩ : ∃ K : Nat, 2 + v = (K : Int) := ⟨(2 + v).toNat, by omega⟩
  obtain ⟨K2, K6⟩ : 2 ≤ K ∧ K ≤ 6 := by omega
  obtain rfl : v = (K : Int) - 2 := by omega
  clear hK v0 v1
  go_wp2
  rw [show (2 : Int) + ((K : Int) - 2) = (K : Int) by omega]
  go_loopg [5, 6, 7] K (fun gm s5 s6 s7 wr => s7 = .int .i64 gm ∧ gm ≤ K ∧ Hid (TrS w B g u K gm s5 s6 wr))
  case atStart => exact ⟨rfl, Nat.le_refl _, Lib.hid (HS.out K (by omega))⟩
  case round =>
    obtain ⟨rfl, hgm, HT⟩ := hrel
    clear HS
    by_cases hin : 0 < gk
    · obtain ⟨g', rfl⟩ : ∃ g', gk = g' + 1 := ⟨gk - 1, by omega⟩
      have hin' : (0 : Int) < ((g' + 1 : Nat) : Int) := by omega
      obtain ⟨xs, ys, hl1, hl2, hb1, hb2, hT⟩ := HT.out
      have HB1 := Lib.hid hb1
      have HB2 := Lib.hid hb2
      have HTT := Lib.hid hT
      clear hb1 hb2 hT HT
      go_wp2_with fail
      refine (pickU HTT.out.2.2.2.1 5 (by omega) (by omega) (by omega)).mono ?_
      rintro e w2 ⟨a, rfl, a0, a1, hR2, hO2⟩
      have HT2 := Lib.hid (HTT.out.rd hO2 hR2 hB)
      clear hR2 hO2 HTT
      by_cases h1 : 0 < g'
      · have h1' : (1 : Int) < ((g' + 1 : Nat) : Int) := by omega
        go_wp2_with (at_builtin; refine TwoI.push rfl Try.underlying39 infoI rfl (.tmp 19) (.tmp 23) rfl _ rfl rfl HT2.out hB (by omega) ?_; intro v' w' hacc; have HT3 := Lib.hid hacc; clear hacc)
        go_wp2_with fail
        refine (pickU HT3.out.2.2.2.1 5 (by omega) (by omega) (by omega)).mono ?_
        rintro e w4 ⟨c, rfl, c0, c1, hR4, hO4⟩
        have HT4 := Lib.hid (HT3.out.rd hO4 hR4 hB).swap
        clear hR4 hO4 HT3
        go_wp2_with (at_builtin; refine TwoI.push rfl Try.underlying39 infoI rfl (.tmp 27) (.tmp 30) rfl _ rfl rfl HT4.out hB (by omega) ?_; intro v'' w'' hacc; have HT5 := Lib.hid hacc; clear hacc)
        go_roundg g'
        case measure => omega
        case rel => exact ⟨by go_num, by omega, Lib.hid ⟨xs ++ [1 + a], ys ++ [c], by simp; omega, .inl ⟨by simp; omega, h1⟩, HB1.out.push (by omega) (by omega), HB2.out.push (by omega) (by omega), HT5.out.swap.le (by simp; omega)⟩⟩
      · obtain rfl : g' = 0 := by omega
        go_wp2_with (at_builtin; refine TwoI.push rfl Try.underlying39 infoI rfl (.tmp 19) (.tmp 23) rfl _ rfl rfl HT2.out hB (by omega) ?_; intro v' w' hacc; have HT3 := Lib.hid hacc; clear hacc)
        go_roundg 0
        case measure => omega
        case rel => exact ⟨by go_num, by omega, Lib.hid ⟨xs ++ [1 + a], ys, by simp; omega, .inr ⟨by simp; omega, rfl⟩, HB1.out.push (by omega) (by omega), HB2.out, HT3.out.le (by simp; omega)⟩⟩
    · obtain rfl : gk = 0 := by omega
      obtain ⟨xs, ys, hl1, hl2, hb1, hb2, hT1, hT2, hT3, hR3, hX3⟩ := HT.out
      obtain ⟨A1, c1, rfl, hI1⟩ := hT1.leaf.1.ints
      obtain ⟨A2, c2, rfl, hI2⟩ := hT2.leaf.1.ints
      have hl3 : ys.length + 1 = xs.length := by omega
      have hxl : xs.length = K := by omega
      have HC := Lib.hid (CaterpillarOf_any A2 c2 ys A1 c1 xs _ hI2 hI1 hl3 (by omega) (by omega) (fun i hi => by have := hb2 i hi; omega) (fun i hi => by have := hb1 i hi; omega))
      have HR3 := Lib.hid (hR3.le (show u + 1 + 2 * (xs.length : Int) ≤ u + 20 by omega))
      have HX3 := Lib.hid hX3
      have sz3 := hX3.size
      clear hT1 hT2 hT3 hI1 hI2 hb1 hb2 hR3 hX3 HT hl1 hl2 hl3 hxl
      go_wp2_with fail
      refine HC.out.mono ?_
      rintro e w4 ⟨A, c, V, D, ok, rfl, hO, hD, hx⟩
      have HO := Lib.hid (hO.mono sz3)
      have HR4 := Lib.hid (HR3.out.ext hx (by omega))
      have HX4 := Lib.hid (HX3.out.on hx)
      have sz4 := hx.size
      clear hO hx HR3 HX3 HC
      cases ok with
      | false =>
        go_wp2_with fail
        refine (l20Space_any HR4.out (by omega) (by omega) 6 n (by omega) (by omega) n0 n1).mono ?_
        rintro e w5 ⟨A', c', V', D', rfl, hO', hD', hR', hX'⟩
        have HO' := Lib.hid (hO'.mono (show w.heap.size ≤ w4.heap.size by omega))
        have HR' := Lib.hid (hR'.le (show u + 20 + 60 ≤ u + 90 by omega))
        have HX' := Lib.hid (HX4.out.trans hX')
        clear hO' hR' hX'
        go_wp2
        go_ret
        exact ⟨_, _, V', D', rfl, HO'.out, hD', HR'.out, HX'.out⟩
      | true =>
        go_wp2_with fail
        refine (pickU HR4.out 3 (by omega) (by omega) (by omega)).mono ?_
        rintro e w5 ⟨a, rfl, a0, a1, hR5, hO5⟩
        have HO5 := Lib.hid (HO.out.rd hO5 (by omega))
        have HX5 := Lib.hid (HX4.out.rd hO5)
        have HR5 := Lib.hid hR5
        have sz5 : w5.heap.size = w4.heap.size := hO5.2.2.2.1
        clear hR5 hO5 HO HR4 HX4
        by_cases z : a = 0
        · subst z
          go_wp2_with fail
          refine (l20Space_any HR5.out (by omega) (by omega) 6 n (by omega) (by omega) n0 n1).mono ?_
          rintro e w6 ⟨A', c', V', D', rfl, hO', hD', hR', hX'⟩
          have HO' := Lib.hid (hO'.mono (show w.heap.size ≤ w5.heap.size by omega))
          have HR' := Lib.hid (hR'.le (show u + 20 + 1 + 60 ≤ u + 90 by omega))
          have HX' := Lib.hid (HX5.out.trans hX')
          clear hO' hR' hX'
          go_wp2
          go_ret
          exact ⟨_, _, V', D', rfl, HO'.out, hD', HR'.out, HX'.out⟩
        · have z' : (a == 0) = false := beq_eq_false_iff_ne.2 z
          clear z
          go_wp2
          go_ret
          exact ⟨_, _, V, D, rfl, HO5.out, hD, HR5.out.le (by omega), HX5.out⟩
end Go.Proofs.Ytjaigidlpfdfiaa
