/- What is proved: what the rows' laid condition gives the walks (the cells of the package's words), and how a law's statement follows where variables are read again. No condition beyond the laid one. -/
import Derived.Test.YtnalcgcdohlfiaaGreatDoorDt
import Derived.Test.YtnalcgcdohlfiaaGreatDoorPa
import Derived.Lib.LaidU8
import Derived.OpenVars
import Derived.LaidMore
import Derived.Stop.Joined
namespace Go.Proofs.YtnalcgcdohlfiaaGreatDoor
open Go.RowKit Go.ChangeShapes Go.WideShapes Go.ChangeAt Go.Deep
section
variable {H : Type} {enc : TypeId × Value → H} {P : Program}
theorem trodVars_stays (hl : laidOutB P = true) {W W' : World} (hb : Below W.heap.size W W') {sp : Nat → Bool} :
    ∀ {ns : List String} {gs : List (DataW H)} {ps : List MemPlace}, varsRowed P ns = true → DataW.TrodVars enc P W (fun _ => true) ns gs ps → (∀ x ∈ ps, sp x.block = true) → DataW.TrodVars enc P W' sp ns gs ps
  | [], [], _, _, h, _ => h
  | [], _ :: _, _, _, h, _ => h.elim
  | _ :: _, [], _, _, h, _ => h.elim
  | n :: ns, d :: ds, ps, hv, h, hsp => by
    have hlt := h.lt
    obtain ⟨g, t, cs, fuel, p, q, h1, h2, h3, h4, hs, e⟩ := h
    simp only [varsRowed, List.all_cons, Bool.and_eq_true] at hv
    have ht : P.readableRec t = true ∧ t < P.types.size := by
      have := hv.1
      rw [h1] at this
      cases hg : P.globals[g]? with
      | none => rw [hg] at h2; cases h2
      | some gl =>
        rw [hg] at h2
        obtain rfl : gl.type = t := Option.some.inj h2
        simpa [hg] using this
    have hp : ∀ x ∈ p, x.block < W.heap.size := fun x hx => hlt x (by rw [e]; simp [hx])
    have h3' : W'.var? P n = some cs := by
      unfold World.var? at h3 ⊢
      rw [h1] at h3 ⊢
      simp only [Option.bind_some] at h3 ⊢
      have hg : g < W.heap.size := by
        cases hh : W.heap[g]? with
        | none => rw [hh] at h3; cases h3
        | some o => exact (Array.getElem?_eq_some_iff.1 hh).1
      rw [hb.block g hg]; exact h3
    exact ⟨g, t, cs, fuel, p, q, h1, h2, h3', DataW.trod_stays (kids_book hl ht.1) (book_sized ht.1) (fun h => by cases h) ⟨ht.2, book_self t⟩ h4 (fun x hx => hb.same (hp x hx)) (fun x hx => hsp x (by rw [e]; simp [hx])),
      trodVars_stays hl hb (by simpa [varsRowed] using hv.2) hs (fun x hx => hsp x (by rw [e]; simp [hx])), e⟩
/-- THE LAST STEP OF EACH LAW whose row lists variables -/
theorem post_lawV {f : Func} {s : ChangeSpec} {apart handsOn again : Bool} {W W' : World} {args : Array Value} {ds gs : List (DataW H)} {before : List MemPlace} {tb : TypeId}
    (hl : laidOutB P = true) (hp : ∀ t ∈ f.params.toList, P.readableRec t = true ∧ t < P.types.size) (hv : varsRowed P s.vars = true) (hrt : f.resultTypes = #[tb]) (htb : P.underlying tb = some .bool)
    (hW : DataW.Whole enc P f.params.toList s.vars apart W args.toList ds gs before) (hs : s.fn H (ds ++ gs) = { results := [.lit (.bool true)], args := ds, vars := gs }) (hx : Ext W W') :
    s.post enc P f apart true handsOn again W args (.bool true) W' := by
  have hW' := hW
  obtain ⟨p, q, hA, hV, rfl, _, _⟩ := hW'
  have hlt : ∀ x ∈ p ++ q, x.block < W.heap.size := fun x hx => hW.lt x hx
  have hb : ∀ (b : Nat) (sp : Nat → Bool) (hd : Bool), DataW.Trod enc P W' b sp hd tb (.bool true) (.lit (.bool true)) [] := fun b sp hd => ⟨1, by simp [DataW.trod, Value.cells, htb]⟩
  refine post_of_below (pa := p) (pv := q) hW ?_ ?_ ?_ rfl hx ?_
  · intro b sp hd
    rw [hs, hrt]
    exact trodAll_mk1 (hb b sp hd)
  · intro sp hsp
    rw [hs]
    exact trodAll_stays hl _ _ _ _ hp hA (fun x hx' => Below.same hx (hlt x (List.mem_append_left _ hx'))) (fun x hx' => hsp x (List.mem_append_left _ hx'))
  · intro sp hsp
    rw [hs]
    exact trodVars_stays hl hx hv hV (fun x hx' => hsp x (List.mem_append_right _ hx'))
  · intro j t r ht hr
    rw [hrt] at ht hr
    have : j = 0 := by
      rcases Nat.eq_zero_or_pos j with h | h
      · exact h
      · have h0 : #[tb][j]? = none := Array.getElem?_eq_none (by simp; omega)
        rw [h0] at ht
        cases ht
    subst this
    simp at ht
    subst ht
    simp [Value.resultList] at hr
    subst hr
    simp [Value.okWide, htb, Cell.okWide, Cell.ok]
end
theorem whole_len {H : Type} {enc : TypeId × Value → H} {P : Program} {W : World} {sp : Nat → Bool} : ∀ {ns : List String} {gs : List (DataW H)} {ps : List MemPlace}, DataW.TrodVars enc P W sp ns gs ps → gs.length = ns.length
  | [], [], _, _ => rfl
  | [], _ :: _, _, h => h.elim
  | _ :: _, [], _, h => h.elim
  | n :: ns, d :: ds, ps, h => by
    obtain ⟨g, t, cs, fuel, p, q, h1, h2, h3, h4, hs, e⟩ := h
    simp [whole_len hs]
theorem gNames : Tryz.prog.globalNamed "loop.example/fewpoints/impl.deedNames" = some 0 := by kernel_rfl
theorem tNames : (Tryz.prog.globals[0]?).map (·.type) = some 80 := by kernel_rfl
theorem cellsS : Tryz.prog.cellsOf 9 = 1 := by kernel_rfl
theorem cells5S : Tryz.prog.cellsOf 80 = 5 := by kernel_rfl
theorem names_of {W : World} {l : List (String × DataW Unit)} (h : laidMet Tryz.prog l W) (hm : ("loop.example/fewpoints/impl.deedNames", Rows.laid_loop_example_fewpoints_impl_deedNames) ∈ l) : Names W := by
  obtain ⟨g, t, cs, fuel, p, h1, h2, h3, h4⟩ := Lib.laidMet.reads h hm
  obtain rfl := Option.some.inj (gNames.symm.trans h1)
  obtain rfl := Option.some.inj (tNames.symm.trans h2)
  obtain ⟨xs, m, rfl, hx, hlen, hn, hel⟩ := DataW.trod_array Tryz.underlying80 h4
  rw [cells5S] at hlen
  intro j hj
  obtain ⟨y, hy⟩ : ∃ y, xs[j]? = some y := ⟨xs[j]'(by omega), List.getElem?_eq_getElem (by omega)⟩
  have e := hel j hj
  rw [hy, cellsS] at e
  obtain ⟨s, hs, rfl, _⟩ := DataW.trod_string Tryz.underlying9 e
  have hv := World.var?_cell h1 h3 j
  rw [hv]
  have hc : cs[j]? = some (.string s) := by
    have := congrArg (·[0]?) hs
    simpa [List.getElem?_take, List.getElem?_drop] using this
  rw [hc]
  have hf := congrArg (fun z => (match z.1 with | .agg l => l[j]? | _ => none)) hx
  have hg : (xs.map (·.1))[j]? = some (DataW.lit (.string s.data.toList)) := by rw [List.getElem?_map, hy]; rfl
  have hf2 : (match Rows.laid_loop_example_fewpoints_impl_deedNames (H := Unit) with | .agg l => l[j]? | _ => none) = some (DataW.lit (.string s.data.toList)) := by
    rw [← hg]; exact hf
  have hs2 : s.data.toList = nameT j := by
    have h5 : j = 0 ∨ j = 1 ∨ j = 2 ∨ j = 3 ∨ j = 4 := by omega
    rcases h5 with rfl | rfl | rfl | rfl | rfl <;>
    · simp [Rows.laid_loop_example_fewpoints_impl_deedNames] at hf2
      rw [← hf2]; rfl
  unfold tx
  rw [← hs2]
end Go.Proofs.YtnalcgcdohlfiaaGreatDoor
