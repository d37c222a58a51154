/- From a walk to a given statement: what a law's proof has in common; slices of pairs among the arguments. -/
import Derived.Test.YthdiphfbjlooaaaDoorCards
import Derived.Test.YthdiphfbjlooaaaDoorTie
import Derived.Test.YthdiphfbjlooaaaDoorArgs
import Derived.Test.YthdiphfbjlooaaaDoorTell
import Derived.WalkKit
import Derived.ProofKit
import Derived.OpenShut
import Derived.Deep.DeepHandedRow
import Derived.Lib.LaidTab
import Derived.LaidHandle
import Derived.Deep.SlicePairs
namespace Go.Proofs.YthdiphfbjlooaaaDoor
open Go Go.RowKit Go.Sep Go.ChangeShapes Go.WideShapes Go.ChangeAt Go.Deep

theorem Tryd.own : ownKnob Tryd.prog.godebug = none := by kernel_rfl
theorem Tryd.et : Tryd.prog.globalNamed "errors.errorType" = some 0 := by kernel_rfl
theorem Tryd.rt : (Tryd.prog.cutTypes.find? (·.1 == "internal/reflectlite.rtype")).map (·.2) = some 159 := by kernel_rfl
theorem Tryd.tsize : Tryd.prog.types.size = 238 := by kernel_rfl
theorem Tryd.oneRow : ((List.range 238).filter fun t => Tryd.prog.rowNamed t [101, 114, 114, 111, 114]) = [34] := by kernel_rfl
theorem Tryd.laidOut : laidOutB Tryd.prog = true := by kernel_rfl

/-- The row's list gives the variable's one cell. -/
theorem handle_of_laid {W : World} (h : laidMetH Tryd.prog [("errors.errorType", Rows.laid_errors_errorType)] W) : ErrT W := by
  have h' : laidMet Tryd.prog [] W ∧ handlesMet Tryd.prog [("errors.errorType", Rows.laid_errors_errorType)] W := h
  obtain ⟨name, u, ty, e1, e2, e3, e4, e5⟩ := h'.2 _ (List.mem_singleton.2 rfl)
  have en : name = [101, 114, 114, 111, 114] := (Option.some.inj e1).symm
  subst en
  obtain rfl := Option.some.inj (Tryd.rt.symm.trans e2)
  have hm : ty ∈ (List.range 238).filter fun t => Tryd.prog.rowNamed t [101, 114, 114, 111, 114] := List.mem_filter.2 ⟨List.mem_range.2 (by rw [← Tryd.tsize]; exact e3), e4⟩
  rw [Tryd.oneRow] at hm
  obtain rfl := List.mem_singleton.1 hm
  have hh : typeHandle Tryd.prog 34 = .pointer (some ⟨1, 34, none⟩) := by kernel_rfl
  rw [hh] at e5
  unfold ErrT
  simpa using World.var?_cell Tryd.et e5 0

/-- All that was read reads as it did. -/
theorem trodAll_below {H : Type} {enc : TypeId × Value → H} {P : Program} (hl : laidOutB P = true) {W W' : World} (hb : Below W.heap.size W W') :
    ∀ (ts : List TypeId) (vs : List Value) (ds : List (DataW H)) (ps : List MemPlace), (∀ t ∈ ts, P.readableRec t = true ∧ t < P.types.size) → DataW.TrodAll enc P W 0 (fun _ => true) true ts vs ds ps → (∀ x ∈ ps, x.block < W.heap.size) →
      DataW.TrodAll enc P W' 0 (fun b => decide (b < W.heap.size)) true ts vs ds ps
  | [], vs, ds, ps, _, h, _ => by obtain ⟨rfl, rfl, rfl⟩ := trodAll_nil h; exact trodAll_mk0
  | t :: ts, vs, ds, ps, ht, h, hlt => by
    obtain ⟨v, vs', d, ds', p, q, rfl, rfl, rfl, hd, hr⟩ := trodAll_cons h
    exact trodAll_cons_mk (Below.trod hl (ht t (by simp)).1 (ht t (by simp)).2 hd hb (fun x hx => hlt x (by simp [hx]))) (trodAll_below hl hb ts vs' ds' q (fun t h => ht t (by simp [h])) hr (fun x hx => hlt x (by simp [hx])))

theorem addr_add (b o n : Nat) : (⟨b, o, none⟩ : Addr).add n = ⟨b, o + n, none⟩ := by
  unfold Addr.add; split <;> simp_all

/-- A slice of pairs that came in. -/
theorem argPairs_of {H : Type} {enc : TypeId × Value → H} {P : Program} {w : World} {t e : TypeId} {f0 f1 : Field} {fuel : Nat} {cs : List Value} {x : DataW H × List MemPlace} (ht : P.underlying t = some (.slice e)) (he : P.underlying e = some (.struct #[f0, f1]))
    (ce : P.cellsOf e = 2) (o0 : f0.offset = 0) (o1 : f1.offset = 1) (c0 : P.cellsOf f0.type = 1) (c1 : P.cellsOf f1.type = 1) (k0 : P.underlying f0.type = some (.int .i64)) (k1 : P.underlying f1.type = some (.int .i64))
    (h : DataW.trod enc P w 0 (fun _ => true) true fuel t cs = some x) : ∃ vi l, cs = [vi] ∧ ArgPairs w vi l := by
  rcases open_slice_pairs ht he ce o0 o1 c0 c1 h with ⟨rfl, rfl⟩ | ⟨a, len, cap, m, n, V0, V1, D0, D1, P0, P1, rfl, _, h1, h2, h3, _, h5⟩
  · exact ⟨_, [], rfl, none, 0, rfl, Nat.le_refl _, by simp, by simp⟩
  · have hm : m = cap := by simpa using h3
    subst hm
    refine ⟨_, (List.range len).map fun i => (intOf (V0 i), intOf (V1 i)), rfl, some a, m, by simp, by simpa using h1, h2, fun j p hp => ?_⟩
    rw [List.getElem?_map, Option.map_eq_some_iff] at hp
    obtain ⟨j', hj', rfl⟩ := hp
    obtain ⟨hjl, rfl⟩ := List.getElem?_eq_some_iff.1 hj'
    simp only [List.length_range] at hjl
    simp only [List.getElem_range]
    obtain ⟨g0, g1, g2, g3⟩ := h5 j (by omega)
    obtain ⟨n0, e0, _, _⟩ := DataW.trod_int k0 g2
    obtain ⟨n1, e1, _, _⟩ := DataW.trod_int k1 g3
    simp only [List.cons.injEq, and_true] at e0 e1
    rw [e0] at g0; rw [e1] at g1
    have hs : a.spot = none := by
      obtain ⟨q0, _⟩ := h5 0 (by omega)
      obtain ⟨b, o, sp⟩ := a
      cases sp with
      | none => rfl
      | some sp => simp [Addr.add, World.cell?] at q0; split at q0 <;> simp at q0
    obtain ⟨b, o, sp⟩ := a
    simp only at hs
    subst hs
    rw [addr_add] at g0 g1
    refine ⟨b, o, rfl, World.block_lt_of_cell? w _ g0, ?_, ?_⟩
    · rw [g0, e0]; rfl
    · rw [Nat.add_assoc]; rw [g1, e1]; rfl

/-- The row's form of a law's answer: true, all read as it was. -/
theorem post_law {H : Type} {enc : TypeId × Value → H} {P : Program} {f : Func} {s : ChangeSpec} {W W' : World} {args : Array Value} {ds gs : List (DataW H)} {before : List MemPlace} {t : TypeId} (hl : laidOutB P = true)
    (hread : f.params.toList.all (fun t => P.readableRec t && decide (t < P.types.size)) = true) (hr : f.resultTypes = #[t]) (ht : P.underlying t = some .bool) (hsv : s.vars = [])
    (hfn : s.fn H ds = { results := [.lit (.bool true)], args := ds }) (hW : DataW.Whole enc P f.params.toList s.vars false W args.toList ds gs before) (hb : Below W.heap.size W W') :
    s.post enc P f false true false false W args (.bool true) W' := by
  have hW' := hW
  have hlt := fun p hp => hW.lt p hp
  obtain ⟨p, q, hA, hV, rfl, _, _⟩ := hW
  rw [hsv] at hV
  obtain ⟨rfl, rfl⟩ := trodVars_none hV
  simp only [List.append_nil] at hlt
  refine ⟨ds, [], p ++ [], [], p, [], hW', ?_, ?_, ?_, hb.frame _, fun h => by cases h⟩
  · rw [hr, List.append_nil, hfn]; exact trodAll_mk1 (shut_bool ht true)
  · rw [List.append_nil, hfn]
    refine trodAll_below hl hb _ _ _ _ (fun t h => ?_) hA hlt
    have := List.all_eq_true.1 hread t h
    simpa using this
  · rw [List.append_nil, hfn, hsv]; rfl

/-- A slice of slices of pairs that came in. -/
theorem argRows_of {H : Type} {enc : TypeId × Value → H} {P : Program} {w : World} {tt t e : TypeId} {f0 f1 : Field} {fuel : Nat} {cs : List Value} {x : DataW H × List MemPlace} (htt : P.underlying tt = some (.slice t)) (ct : P.cellsOf t = 1) (ht : P.underlying t = some (.slice e)) (he : P.underlying e = some (.struct #[f0, f1]))
    (ce : P.cellsOf e = 2) (o0 : f0.offset = 0) (o1 : f1.offset = 1) (c0 : P.cellsOf f0.type = 1) (c1 : P.cellsOf f1.type = 1) (k0 : P.underlying f0.type = some (.int .i64)) (k1 : P.underlying f1.type = some (.int .i64))
    (h : DataW.trod enc P w 0 (fun _ => true) true fuel tt cs = some x) : ∃ v ls, cs = [v] ∧ ArgRows w v ls := by
  rcases open_slice1 htt ct h with ⟨rfl, rfl⟩ | ⟨a, len, cap, m, n, V, D, Pl, rfl, _, h1, h2, h3, _, h5⟩
  · exact ⟨_, [], rfl, none, 0, rfl, Nat.le_refl _, by simp, by simp⟩
  · have hm : m = cap := by simpa using h3
    subst hm
    have hp : ∀ i, i < len → ∃ l, ArgPairs w (V i) l := by
      intro i hi
      obtain ⟨_, g⟩ := h5 i (by omega)
      obtain ⟨vi, l, hv, hl⟩ := argPairs_of ht he ce o0 o1 c0 c1 k0 k1 g
      simp only [List.cons.injEq, and_true] at hv
      rw [hv]; exact ⟨l, hl⟩
    obtain ⟨f, hf⟩ := choose_lt hp
    refine ⟨_, (List.range len).map f, rfl, some a, m, by simp, by simpa using h1, h2, fun i l hl => ?_⟩
    rw [List.getElem?_map, Option.map_eq_some_iff] at hl
    obtain ⟨j', hj', rfl⟩ := hl
    obtain ⟨hjl, rfl⟩ := List.getElem?_eq_some_iff.1 hj'
    simp only [List.length_range] at hjl
    simp only [List.getElem_range]
    have hs : a.spot = none := by
      obtain ⟨q0, _⟩ := h5 0 (by omega)
      obtain ⟨b, o, sp⟩ := a
      cases sp with
      | none => rfl
      | some sp => simp [Addr.add, World.cell?] at q0; split at q0 <;> simp at q0
    obtain ⟨b, o, sp⟩ := a
    simp only at hs
    subst hs
    have g0 := (h5 i (by omega)).1
    rw [addr_add] at g0
    exact ⟨b, o, V i, rfl, World.block_lt_of_cell? w _ g0, g0, hf i hjl⟩
end Go.Proofs.YthdiphfbjlooaaaDoor
