/- The law StorePlays returns true for every input, and its argument reads afterwards as before; condition: the package variable errors.errorType holds the handle of the type error, as the row lists it. -/
import Derived.Test.YtbcoddibdipjkaaDoorLift
import Derived.Test.YtbcoddibdipjkaaDoorArgF
import Derived.Test.YtbcoddibdipjkaaDoorPlaysW
namespace Go.Proofs.YtbcoddibdipjkaaDoor.storePlays
open Go Go.ChangeShapes Go.WideShapes Go.ChangeAt Go.RowKit Go.Sep Go.Deep

theorem cells1 : Tryd.prog.cellsOf 76 = 4 := by kernel_rfl
theorem cells2 : Tryd.prog.cellsOf 3 = 1 := by kernel_rfl
theorem cells3 : Tryd.prog.cellsOf 29 = 1 := by kernel_rfl
theorem cellsW : Tryd.prog.cellsOf 31 = 2 := by kernel_rfl
theorem elem {H : Type} {enc : TypeId × Value → H} {w : World} (cs : List Value) (k : Nat) (y : DataW H × List MemPlace) (h : DataW.trod enc Tryd.prog w 0 (fun _ => true) true k 76 cs = some y) : ∃ p : Put1, cells4 p = cs ∧ PutOk w p := by
  obtain ⟨y0, y1, y2, y3, n, _, hl, g0, g1, g2, g3⟩ := Joins.trod_struct4 Tryd.underlying76 h
  rw [cells1] at hl
  simp only [cells2, cells3] at g0 g1 g2 g3
  match cs, hl with
  | [a, b, c, d], _ =>
    obtain ⟨n0, e0, _⟩ := DataW.trod_int Tryd.underlying3 (by simpa using g0)
    obtain ⟨n1, e1, _⟩ := DataW.trod_int Tryd.underlying3 (by simpa using g1)
    obtain ⟨n2, e2, _⟩ := DataW.trod_int Tryd.underlying3 (by simpa using g2)
    obtain ⟨vi, l, e3, h3⟩ := argPairs_of Tryd.underlying29 Tryd.underlying31 cellsW rfl rfl cells2 cells2 Tryd.underlying3 Tryd.underlying3 (by simpa using g3)
    simp only [List.cons.injEq, and_true] at e0 e1 e2 e3
    exact ⟨(n0, n1, n2, d), by rw [e0, e1, e2]; rfl, l, by rw [e3]; exact h3⟩

set_option maxRecDepth 100000 in
theorem contract (H : Type) (enc : TypeId × Value → H) (W : World) (base : Nat) (args : Array Value) (ds gs : List (DataW H)) (before : List MemPlace)
    (hval : ∀ (j : Nat) t v, Tryd.f6.params[j]? = some t → args[j]? = some v → Value.okWide Tryd.prog W .any base t v)
    (hW : DataW.Whole enc Tryd.prog Tryd.f6.params.toList Rows.storePlaysSpec.vars false W args.toList ds gs before) (hL : laidMetH Tryd.prog Rows.storePlaysRow.laid W) :
    Calls Tryd.prog 6 args W fun e W' => ∃ v, e = .returned v ∧ Rows.storePlaysSpec.post enc Tryd.prog Tryd.f6 false true false false W args v W' := by
  have hW' := hW
  obtain ⟨p, q, hA0, hV, rfl, hfz, hnd⟩ := hW
  have hA : DataW.TrodAll enc Tryd.prog W 0 (fun _ => true) true Tryd.f6.params.toList args.toList ds p := hA0
  rw [Tryd.params6] at hA hval
  obtain ⟨v0, vs0, d0, ds0, p0, q0, hargs, rfl, rfl, h0, r0⟩ := trodAll_cons hA
  obtain ⟨rfl, rfl, rfl⟩ := trodAll_nil r0
  obtain rfl : args = #[v0] := Array.ext' hargs
  obtain ⟨a0, len0, cap0, rfl⟩ := okWide_slice Tryd.underlying70 (hval 0 70 _ rfl rfl)
  obtain ⟨fuel, hf⟩ := h0
  clear hA0 hA
  have hE := handle_of_laid hL
  simp only [List.append_nil] at hW'
  obtain ⟨v, ls, hv, hr, hok⟩ := argFG_of (G := PutOk W) (0, 0, 0, .slice none 0 0) ⟨[], none, 0, rfl, Nat.le_refl _, by simp, by simp⟩ cells4 Tryd.underlying70 cells1 (by omega) elem hf
  obtain rfl : Value.slice a0 len0 cap0 = v := by simpa [Value.cells] using hv
  refine (splays_any W _ ls hE hr hok).mono fun e W' ⟨he, hb⟩ => ⟨_, he, ?_⟩
  exact post_law Tryd.laidOut (by kernel_rfl) (by kernel_rfl) Tryd.underlying4 rfl rfl hW' hb

noncomputable def laidWorld (os : Os) : World :=
  { World.holding Tryd.prog os ⟨#[], #[], []⟩ with heap := (World.holding Tryd.prog os ⟨#[], #[], []⟩).heap.modify 0 fun
      | .cells _ t frozen => .cells #[.iface 159 (.agg #[.pointer (some ⟨1, 34, none⟩)])] t frozen
      | o => o }
theorem laid_met (os : Os) : laidMetH Tryd.prog Rows.storePlaysRow.laid ((laidWorld os).forCall (fun _ _ => 0) ⟨#[], #[.slice none 0 0], []⟩).memory :=
  laidMetH_of_parts (laidMet_nil _ _) (by kernel_rfl)
theorem reads (os : Os) {H : Type} (enc : TypeId × Value → H) : ∃ places, DataW.whole enc Tryd.prog ((laidWorld os).forCall (fun _ _ => 0) ⟨#[], #[.slice none 0 0], []⟩).memory Tryd.f6.params.toList Rows.storePlaysSpec.vars false #[Value.slice none 0 0].toList 8 = some ([.nil], [], places) :=
  ⟨[], by kernel_rfl⟩

set_option maxRecDepth 100000 in
theorem lifted (os : Os) (started : os.Started) (H : Type) (enc : TypeId × Value → H) (F : Stop.Interp) :
    ReturnsInHanded {} Tryd.checked os 6 .any ((OpenSpec.ofChange Rows.storePlaysSpec).preRow enc Tryd.prog Tryd.f6 Rows.storePlaysRow.domain false Rows.storePlaysRow.laid) (((OpenSpec.ofChange Rows.storePlaysSpec).at F).post enc Tryd.prog Tryd.f6 false true false false) := by
  obtain ⟨places, hx⟩ := reads os enc
  refine returnsInHanded_of_row (C := Tryd.checked) (s := OpenSpec.ofChange Rows.storePlaysSpec) Tryd.own started (by kernel_rfl) Tryd.func6
    (witness_row_at (enc := enc) (C := Tryd.checked) false (laidWorld os) #[.slice none 0 0] rfl (by kernel_rfl) (by kernel_rfl) (by kernel_rfl)
      (OpenSpec.preRow_of_cond 8 hx (by kernel_rfl) (fun k hk => by cases hk) (by kernel_rfl) (laid_met os))) ?_
  intro W base args ds gs before hval hW _ _ _ hL _ _
  exact contract H enc W base args ds gs before hval hW hL

theorem said : Rows.StorePlaysSaid :=
  OpenClaim.holds_of_cond 6 Tryd.f6 rfl rfl rfl rfl rfl rfl rfl ⟨rfl, rfl, rfl, rfl, rfl⟩ rfl rfl rfl rfl rfl (by kernel_rfl) Tryd.func6 (by kernel_rfl)
    (of_decide_eq_true (by kernel_rfl)) (by unfold Func.isWrapper; first | (rw [if_pos (by decide +kernel)]; kernel_rfl) | (rw [if_neg (by decide +kernel)]; exact ⟨rfl, rfl⟩))
    (fun os started H enc _ F => by rw [OpenClaim.pre_eq_preRow]; exact lifted os started H enc F)

theorem plain (f : FuncId) (fn : Func) (hf : Tryd.pinned.checked.prog.funcNamed "interleaf/interleaflaw.StorePlays" = some f) (hfn : Tryd.pinned.checked.prog.funcs[f]? = some fn) :
    true = Tryd.pinned.checked.prog.looks [] ∧ ∀ (j : Nat) t, fn.params[j]? = some t → Tryd.pinned.checked.prog.wantsStandIn t = false := by
  obtain rfl : f = 6 := Option.some.inj ((show Tryd.prog.funcNamed "interleaf/interleaflaw.StorePlays" = some 6 by kernel_rfl).symm.trans hf) |>.symm
  obtain rfl : fn = Tryd.f6 := (Option.some.inj (Tryd.func6.symm.trans hfn)).symm
  refine ⟨by kernel_rfl, fun j t ht => ?_⟩
  rw [Tryd.params6] at ht
  have hall : (#[70] : Array Nat).all (fun t => decide (Tryd.prog.wantsStandIn t = false)) = true := by kernel_rfl
  exact (of_decide_eq_true (Array.all_eq_true_iff_forall_mem.1 hall t (Array.mem_of_getElem? ht)) : Tryd.prog.wantsStandIn t = false)

theorem card : Rows.StorePlaysCardSaid :=
  Claim7.holds_tied_plain_at .later [] _ _ _ _ said (fun _ h => by cases h) (by kernel_rfl) (fun _ h => by cases h) storePlays_row_tie rfl ⟨rfl, rfl⟩ (by kernel_rfl) rfl plain (by kernel_rfl)
end Go.Proofs.YtbcoddibdipjkaaDoor.storePlays
