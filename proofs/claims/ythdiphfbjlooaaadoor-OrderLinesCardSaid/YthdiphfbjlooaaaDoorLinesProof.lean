/- The law OrderLines returns true for every input, and its argument reads afterwards as before; condition: the package variable errors.errorType holds the handle of the type error, as the row lists it. -/
import Derived.Test.YthdiphfbjlooaaaDoorLift
import Derived.Test.YthdiphfbjlooaaaDoorArgF
import Derived.Test.YthdiphfbjlooaaaDoorLinesW
namespace Go.Proofs.YthdiphfbjlooaaaDoor.orderLines
open Go Go.ChangeShapes Go.WideShapes Go.ChangeAt Go.RowKit Go.Sep Go.Deep

theorem cells1 : Tryd.prog.cellsOf 65 = 4 := by kernel_rfl
theorem cells2 : Tryd.prog.cellsOf 3 = 1 := by kernel_rfl
theorem cells3 : Tryd.prog.cellsOf 4 = 1 := by kernel_rfl
/-- One of the list, its numbers within an int's bounds. -/
abbrev OpB : Type := { o : Op1 // o.tx ≤ 9223372036854775807 ∧ o.fr ≤ 9223372036854775807 }
instance : Inhabited OpB := ⟨⟨⟨0, 0, false, 0⟩, by decide⟩⟩
theorem int_le {n : Int} (h : (Lit.int .i64 n).wf = true) : n ≤ 9223372036854775807 := by
  simp only [Lit.wf, Bool.and_eq_true, decide_eq_true_eq] at h
  have h2 : IntKind.max .i64 = 9223372036854775807 := by decide
  omega
theorem elem {H : Type} {enc : TypeId × Value → H} {w : World} (cs : List Value) (k : Nat) (y : DataW H × List MemPlace) (h : DataW.trod enc Tryd.prog w 0 (fun _ => true) true k 65 cs = some y) : ∃ p : OpB, ocells p.1 = cs := by
  obtain ⟨y0, y1, y2, y3, n, _, hl, g0, g1, g2, g3⟩ := Joins.trod_struct4 Tryd.underlying65 h
  rw [cells1] at hl
  simp only [cells2, cells3] at g0 g1 g2 g3
  match cs, hl with
  | [a, b, c, d], _ =>
    obtain ⟨n0, e0, _, b0⟩ := DataW.trod_int Tryd.underlying3 (by simpa using g0)
    obtain ⟨n1, e1, _⟩ := DataW.trod_int Tryd.underlying3 (by simpa using g1)
    obtain ⟨n2, e2, _⟩ := DataW.trod_bool Tryd.underlying4 (by simpa using g2)
    obtain ⟨n3, e3, _, b3⟩ := DataW.trod_int Tryd.underlying3 (by simpa using g3)
    simp only [List.cons.injEq, and_true] at e0 e1 e2 e3
    exact ⟨⟨⟨n0, n1, n2, n3⟩, int_le b0, int_le b3⟩, by rw [e0, e1, e2, e3]; rfl⟩
theorem plain_arg {w0 : World} {v : Value} {l : List OpB} (h : ArgF (fun o : OpB => ocells o.1) 4 w0 v l) : ArgF ocells 4 w0 v (l.map (·.1)) := by
  obtain ⟨a, cap, rfl, h1, h2, h3⟩ := h
  refine ⟨a, cap, by simp, by simpa using h1, h2, fun i p hp => ?_⟩
  rw [List.getElem?_map, Option.map_eq_some_iff] at hp
  obtain ⟨q, hq, rfl⟩ := hp
  exact h3 i q hq

set_option maxRecDepth 100000 in
theorem contract (H : Type) (enc : TypeId × Value → H) (W : World) (base : Nat) (args : Array Value) (ds gs : List (DataW H)) (before : List MemPlace)
    (hval : ∀ (j : Nat) t v, Tryd.f8.params[j]? = some t → args[j]? = some v → Value.okWide Tryd.prog W .any base t v)
    (hW : DataW.Whole enc Tryd.prog Tryd.f8.params.toList Rows.orderLinesSpec.vars false W args.toList ds gs before) (hL : laidMetH Tryd.prog Rows.orderLinesRow.laid W) :
    Calls Tryd.prog 8 args W fun e W' => ∃ v, e = .returned v ∧ Rows.orderLinesSpec.post enc Tryd.prog Tryd.f8 false true false false W args v W' := by
  have hW' := hW
  obtain ⟨p, q, hA0, hV, rfl, hfz, hnd⟩ := hW
  have hA : DataW.TrodAll enc Tryd.prog W 0 (fun _ => true) true Tryd.f8.params.toList args.toList ds p := hA0
  rw [Tryd.params8] at hA hval
  obtain ⟨v0, vs0, d0, ds0, p0, q0, hargs, rfl, rfl, h0, r0⟩ := trodAll_cons hA
  obtain ⟨rfl, rfl, rfl⟩ := trodAll_nil r0
  obtain rfl : args = #[v0] := Array.ext' hargs
  obtain ⟨a0, len0, cap0, rfl⟩ := okWide_slice Tryd.underlying59 (hval 0 59 _ rfl rfl)
  obtain ⟨fuel, hf⟩ := h0
  clear hA0 hA
  have hE := handle_of_laid hL
  simp only [List.append_nil] at hW'
  obtain ⟨v, ls, hv, hr⟩ := argF_of (fun o : OpB => ocells o.1) Tryd.underlying59 cells1 (by omega) elem hf
  obtain rfl : Value.slice a0 len0 cap0 = v := by simpa [Value.cells] using hv
  refine (lines_any W _ (ls.map (·.1)) hE (plain_arg hr) (fun o ho => by obtain ⟨q, _, rfl⟩ := List.mem_map.1 ho; exact q.2)).mono fun e W' ⟨he, hb⟩ => ⟨_, he, ?_⟩
  exact post_law Tryd.laidOut (by kernel_rfl) (by kernel_rfl) Tryd.underlying4 rfl rfl hW' hb

noncomputable def laidWorld (os : Os) : World :=
  { World.holding Tryd.prog os ⟨#[], #[], []⟩ with heap := (World.holding Tryd.prog os ⟨#[], #[], []⟩).heap.modify 0 fun
      | .cells _ t frozen => .cells #[.iface 159 (.agg #[.pointer (some ⟨1, 34, none⟩)])] t frozen
      | o => o }
theorem laid_met (os : Os) : laidMetH Tryd.prog Rows.orderLinesRow.laid ((laidWorld os).forCall (fun _ _ => 0) ⟨#[], #[.slice none 0 0], []⟩).memory :=
  laidMetH_of_parts (laidMet_nil _ _) (by kernel_rfl)
theorem reads (os : Os) {H : Type} (enc : TypeId × Value → H) : ∃ places, DataW.whole enc Tryd.prog ((laidWorld os).forCall (fun _ _ => 0) ⟨#[], #[.slice none 0 0], []⟩).memory Tryd.f8.params.toList Rows.orderLinesSpec.vars false #[Value.slice none 0 0].toList 8 = some ([.nil], [], places) :=
  ⟨[], by kernel_rfl⟩

set_option maxRecDepth 100000 in
theorem lifted (os : Os) (started : os.Started) (H : Type) (enc : TypeId × Value → H) (F : Stop.Interp) :
    ReturnsInHanded {} Tryd.checked os 8 .any ((OpenSpec.ofChange Rows.orderLinesSpec).preRow enc Tryd.prog Tryd.f8 Rows.orderLinesRow.domain false Rows.orderLinesRow.laid) (((OpenSpec.ofChange Rows.orderLinesSpec).at F).post enc Tryd.prog Tryd.f8 false true false false) := by
  obtain ⟨places, hx⟩ := reads os enc
  refine returnsInHanded_of_row (C := Tryd.checked) (s := OpenSpec.ofChange Rows.orderLinesSpec) Tryd.own started (by kernel_rfl) Tryd.func8
    (witness_row_at (enc := enc) (C := Tryd.checked) false (laidWorld os) #[.slice none 0 0] rfl (by kernel_rfl) (by kernel_rfl) (by kernel_rfl)
      (OpenSpec.preRow_of_cond 8 hx (by kernel_rfl) (fun k hk => by cases hk) (by kernel_rfl) (laid_met os))) ?_
  intro W base args ds gs before hval hW _ _ _ hL _ _
  exact contract H enc W base args ds gs before hval hW hL

theorem said : Rows.OrderLinesSaid :=
  OpenClaim.holds_of_cond 8 Tryd.f8 rfl rfl rfl rfl rfl rfl rfl ⟨rfl, rfl, rfl, rfl, rfl⟩ rfl rfl rfl rfl rfl (by kernel_rfl) Tryd.func8 (by kernel_rfl)
    (of_decide_eq_true (by kernel_rfl)) (by unfold Func.isWrapper; first | (rw [if_pos (by decide +kernel)]; kernel_rfl) | (rw [if_neg (by decide +kernel)]; exact ⟨rfl, rfl⟩))
    (fun os started H enc _ F => by rw [OpenClaim.pre_eq_preRow]; exact lifted os started H enc F)

theorem plain (f : FuncId) (fn : Func) (hf : Tryd.pinned.checked.prog.funcNamed "interleaf/interleaflaw.OrderLines" = some f) (hfn : Tryd.pinned.checked.prog.funcs[f]? = some fn) :
    true = Tryd.pinned.checked.prog.looks [] ∧ ∀ (j : Nat) t, fn.params[j]? = some t → Tryd.pinned.checked.prog.wantsStandIn t = false := by
  obtain rfl : f = 8 := Option.some.inj ((show Tryd.prog.funcNamed "interleaf/interleaflaw.OrderLines" = some 8 by kernel_rfl).symm.trans hf) |>.symm
  obtain rfl : fn = Tryd.f8 := (Option.some.inj (Tryd.func8.symm.trans hfn)).symm
  refine ⟨by kernel_rfl, fun j t ht => ?_⟩
  rw [Tryd.params8] at ht
  have hall : (#[59] : Array Nat).all (fun t => decide (Tryd.prog.wantsStandIn t = false)) = true := by kernel_rfl
  exact (of_decide_eq_true (Array.all_eq_true_iff_forall_mem.1 hall t (Array.mem_of_getElem? ht)) : Tryd.prog.wantsStandIn t = false)

theorem card : Rows.OrderLinesCardSaid :=
  Claim7.holds_tied_plain_at .later [] _ _ _ _ said (fun _ h => by cases h) (by kernel_rfl) (fun _ h => by cases h) orderLines_row_tie rfl ⟨rfl, rfl⟩ (by kernel_rfl) rfl plain (by kernel_rfl)
end Go.Proofs.YthdiphfbjlooaaaDoor.orderLines
