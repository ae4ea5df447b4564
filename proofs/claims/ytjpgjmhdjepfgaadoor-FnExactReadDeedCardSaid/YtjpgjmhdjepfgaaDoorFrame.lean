/- What is proved: how arguments of the laws are opened (a slice of rows, a slice of numbers), and how a law's statement follows once its call returns true and has turned nothing that was there. No condition. -/
import Derived.Test.YtjpgjmhdjepfgaaDoorOwn
import Derived.ProofKit
import Derived.OpenShut
import Derived.Deep.Matrix
import Derived.WideKeyArgs
namespace Go.Proofs.YtjpgjmhdjepfgaaDoor
open Go.RowKit Go.ChangeShapes Go.WideShapes Go.ChangeAt Go.Deep

section
variable {H : Type} {enc : TypeId × Value → H} {P : Program}

theorem trodAll_stays (hl : laidOutB P = true) {W W' : World} {sp : Nat → Bool} : ∀ (ts : List TypeId) (vs : List Value) (ds : List (DataW H)) (ps : List MemPlace),
    (∀ t ∈ ts, P.readableRec t = true ∧ t < P.types.size) → DataW.TrodAll enc P W 0 (fun _ => true) true ts vs ds ps → (∀ p ∈ ps, W.sameAt W' p) → (∀ p ∈ ps, sp p.block = true) →
    DataW.TrodAll enc P W' 0 sp true ts vs ds ps
  | [], vs, ds, ps, _, h, _, _ => by
    obtain ⟨rfl, rfl, rfl⟩ := trodAll_nil h
    exact trodAll_mk0
  | t :: ts, vs, ds, ps, hr, h, hsame, hs => by
    obtain ⟨v, vs', d, ds', p, q, rfl, rfl, rfl, h1, h2⟩ := trodAll_cons h
    obtain ⟨r1, r2⟩ := hr t (List.mem_cons_self)
    exact trodAll_cons_mk (WideElems.Trod_stays hl r1 r2 h1 (fun p hp => hsame p (List.mem_append_left _ hp)) (fun p hp => hs p (List.mem_append_left _ hp)))
      (trodAll_stays hl ts vs' ds' q (fun t ht => hr t (List.mem_cons_of_mem _ ht)) h2 (fun p hp => hsame p (List.mem_append_right _ hp)) (fun p hp => hs p (List.mem_append_right _ hp)))

theorem post_of_below {f : Func} {s : ChangeSpec} {apart fresh handsOn again : Bool} {W W' : World} {args : Array Value} {v : Value} {ds gs : List (DataW H)} {before pa pv : List MemPlace}
    (hW : DataW.Whole enc P f.params.toList s.vars apart W args.toList ds gs before)
    (hres : ∀ (b : Nat) (sp : Nat → Bool) (hd : Bool), DataW.TrodAll enc P W' b sp hd f.resultTypes.toList (v.resultList f.resultTypes.size) (s.fn H (ds ++ gs)).results [])
    (hargs : ∀ sp : Nat → Bool, (∀ p ∈ before, sp p.block = true) → DataW.TrodAll enc P W' 0 sp true f.params.toList args.toList (s.fn H (ds ++ gs)).args pa)
    (hvars : ∀ sp : Nat → Bool, (∀ p ∈ before, sp p.block = true) → DataW.TrodVars enc P W' sp s.vars (s.fn H (ds ++ gs)).vars pv)
    (hps : before = pa ++ pv) (hb : Below W.heap.size W W')
    (hok : ∀ (j : Nat) (t : TypeId) (r : Value), f.resultTypes[j]? = some t → (v.resultList f.resultTypes.size)[j]? = some r → Value.okWide P W' .any 0 t r) :
    s.post enc P f apart fresh handsOn again W args v W' := by
  have hlt : ∀ p ∈ before, p.block < W.heap.size := fun p hp => hW.lt p hp
  have hold : ∀ p ∈ before, (fun b => decide (b < W.heap.size)) p.block = true := fun p hp => by simpa using hlt p hp
  refine ⟨ds, gs, before, [], pa, pv, hW, hres _ _ _, hargs _ hold, hvars _ hold, World.keptBut_mono (fun p hp => ⟨hp, ?_⟩) (hb.frame (· ∈ before)), fun _ => ?_⟩
  · rw [hps, List.mem_append] at hp
    exact Or.inr hp
  · obtain ⟨_, _, _, _, _, hz, hn⟩ := hW
    refine ⟨hok, _, _, ([] ++ pa) ++ pv, ⟨[] ++ pa, pv, trodAll_append (hargs _ (fun _ _ => rfl)) (hres _ _ _), hvars _ (fun _ _ => rfl), rfl, ?_, ?_⟩, ?_⟩
    · intro b off hp
      have hin : MemPlace.cell b off ∈ before := by rw [hps]; simpa using hp
      rw [hb.frozen (hlt _ hin)]
      exact hz b off hin
    · intro ha
      have := hn ha
      rw [hps] at this
      simpa using this
    · intro p hp _
      rw [hps]
      simpa using hp

/-- THE LAST STEP OF EACH LAW: it has returned true, and nothing that was there has turned. -/
theorem post_law {f : Func} {s : ChangeSpec} {apart handsOn again : Bool} {W W' : World} {args : Array Value} {ds : List (DataW H)} {before : List MemPlace} {tb : TypeId}
    (hl : laidOutB P = true) (hp : ∀ t ∈ f.params.toList, P.readableRec t = true ∧ t < P.types.size) (hv : s.vars = []) (hrt : f.resultTypes = #[tb]) (htb : P.underlying tb = some .bool)
    (hW : DataW.Whole enc P f.params.toList s.vars apart W args.toList ds [] before) (hs : s.fn H (ds ++ []) = { results := [.lit (.bool true)], args := ds }) (hx : Ext W W') :
    s.post enc P f apart true handsOn again W args (.bool true) W' := by
  have hW' := hW
  obtain ⟨p, q, hA, hV, rfl, _, _⟩ := hW'
  rw [hv] at hV
  obtain ⟨_, rfl⟩ := trodVars_none hV
  rw [List.append_nil] at hW
  have hlt : ∀ x ∈ p, x.block < W.heap.size := fun x hx => hW.lt x hx
  have hb : ∀ (b : Nat) (sp : Nat → Bool) (hd : Bool), DataW.Trod enc P W' b sp hd tb (.bool true) (.lit (.bool true)) [] := fun b sp hd => ⟨1, by simp [DataW.trod, Value.cells, htb]⟩
  refine post_of_below (pa := p) (pv := []) hW ?_ ?_ ?_ (by simp) hx ?_
  · intro b sp hd
    rw [hs, hrt]
    exact trodAll_mk1 (hb b sp hd)
  · intro sp hsp
    rw [hs]
    exact trodAll_stays hl _ _ _ _ hp hA (fun x hx' => Below.same hx (hlt x hx')) (fun x hx' => hsp x hx')
  · intro sp hsp
    rw [hs, hv]
    rfl
  · intro j t r ht hr
    rw [hrt] at ht hr
    have : j = 0 := by
      rcases Nat.eq_zero_or_pos j with h | h
      · exact h
      · have h0 : #[tb][j]? = none := Array.getElem?_eq_none (by simp; omega)
        rw [h0] at ht
        cases ht
    subst this
    simp at ht
    subst ht
    simp [Value.resultList] at hr
    subst hr
    simp [Value.okWide, htb, Cell.okWide, Cell.ok]
end

set_option maxRecDepth 100000 in
theorem laidOut : laidOutB Tryd.prog = true := by kernel_rfl
theorem cellsR : Tryd.prog.cellsOf 22 = 1 := by kernel_rfl
theorem cellsI : Tryd.prog.cellsOf 3 = 1 := by kernel_rfl
theorem own : ownKnob Tryd.prog.godebug = none := by kernel_rfl

section
variable {H : Type} {enc : TypeId × Value → H} {W : World} {base : Nat}

theorem ints_of_cells {w : World} {A : Option Addr} {L C : Nat} {zs : List Int} (h1 : L ≤ C) (h2 : C ≤ maxLen) (h3 : zs.length = C)
    (h4 : A = none → C = 0) (h5 : ∀ a', A = some a' → ∀ c, c < C → w.cell? (a'.add c) = some (.int .i64 (zs.getD c 0))) : (zs.take L).length = L ∧ Ints w A C (zs.take L) := by
  have hl : (zs.take L).length = L := by rw [List.length_take]; omega
  refine ⟨hl, by omega, h2, ?_⟩
  cases A with
  | none => have := h4 rfl; exact ⟨0, 0, fun h => absurd h (by omega), fun j hj => absurd hj (by omega)⟩
  | some a =>
    by_cases hL : L = 0
    · exact ⟨0, 0, fun h => absurd h (by omega), fun j hj => absurd hj (by omega)⟩
    · obtain ⟨b, o, s⟩ := a
      have h0 := h5 _ rfl 0 (by omega)
      have hs : s = none := by simpa [Addr.add] using World.cell?_spot h0
      subst hs
      refine ⟨b, o, fun _ => rfl, fun j hj => ?_⟩
      rw [hl] at hj
      have hc := h5 _ rfl j (by omega)
      rw [add_plain] at hc
      rw [hc]
      congr 2
      rw [ix_of (by omega)]
      simp [List.getD, show j < zs.length by omega]

set_option maxRecDepth 100000 in
/-- AN ARGUMENT that is a slice of numbers -/
theorem read_ints {r : Reach} {b0 : Nat} {v : Value} {d : DataW H} {ps : List MemPlace} (hval : Value.okWide Tryd.prog W r b0 22 v) (h : DataW.Trod enc Tryd.prog W base (fun _ => true) true 22 v d ps) :
    ∃ A c xs, v = .slice A xs.length c ∧ Ints W A c xs := by
  obtain ⟨a0, len, cap, rfl⟩ := okWide_slice Tryd.underlying22 hval
  obtain ⟨fuel, hf⟩ := h
  rcases open_ints Tryd.underlying22 Tryd.underlying3 cellsI hf with ⟨hcs, _⟩ | ⟨a, len', cap', zs, hcs, hb, hl, hm, hz, hy, hcell, hwz⟩
  · simp [Value.cells] at hcs
    obtain ⟨rfl, rfl, rfl⟩ := hcs
    exact ⟨none, 0, [], rfl, Ints.nil _ _ _ (Nat.zero_le _)⟩
  · simp [Value.cells] at hcs
    obtain ⟨rfl, rfl, rfl⟩ := hcs
    simp only [if_true] at hz
    obtain ⟨e, hI⟩ := ints_of_cells (w := W) (A := some a) (L := len) (C := cap) (zs := zs) hl hm hz (fun h => by cases h) (fun a' ha c hc => by cases ha; exact hcell c (by rw [hz]; exact hc))
    exact ⟨some a, cap, zs.take len, by rw [e], hI⟩

end
end Go.Proofs.YtjpgjmhdjepfgaaDoor
