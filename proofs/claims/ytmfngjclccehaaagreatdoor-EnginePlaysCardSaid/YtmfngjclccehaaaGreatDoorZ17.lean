/- The law EnginePlays returns true for every input, and its arguments read afterwards as before; condition: the package variable errors.errorType holds the handle of the type error, as the row lists it. -/
import Derived.Test.YtmfngjclccehaaaGreatDoorZ0
import Derived.Test.YtmfngjclccehaaaGreatDoorZ1
import Derived.Test.YtmfngjclccehaaaGreatDoorZ16
namespace Go.Proofs.YtmfngjclccehaaaGreatDoor.enginePlays
open Go Go.ChangeShapes Go.WideShapes Go.ChangeAt Go.RowKit Go.Sep Go.Deep
theorem cells1 : Tryz.prog.cellsOf 40 = 4 := by kernel_rfl
theorem cells2 : Tryz.prog.cellsOf 3 = 1 := by kernel_rfl
theorem cellsW : Tryz.prog.cellsOf 101 = 2 := by kernel_rfl
instance : Inhabited Act4 := ⟨⟨0, 0, 0, 0⟩⟩
theorem elem {H : Type} {enc : TypeId × Value → H} {w : World} (cs : List Value) (k : Nat) (y : DataW H × List MemPlace) (h : DataW.trod enc Tryz.prog w 0 (fun _ => true) true k 40 cs = some y) : ∃ p : Act4, acts4 p = cs := by
 obtain ⟨y0, y1, y2, y3, n, _, hl, g0, g1, g2, g3⟩ := Joins.trod_struct4 Tryz.underlying40 h
 rw [cells1] at hl
 simp only [cells2] at g0 g1 g2 g3
 match cs, hl with
 | [a, b, c, d], _ =>
  obtain ⟨n0, e0, _⟩ := DataW.trod_int Tryz.underlying3 (by simpa using g0)
  obtain ⟨n1, e1, _⟩ := DataW.trod_int Tryz.underlying3 (by simpa using g1)
  obtain ⟨n2, e2, _⟩ := DataW.trod_int Tryz.underlying3 (by simpa using g2)
  obtain ⟨n3, e3, _⟩ := DataW.trod_int Tryz.underlying3 (by simpa using g3)
  simp only [List.cons.injEq, and_true] at e0 e1 e2 e3
  exact ⟨⟨n0, n1, n2, n3⟩, by rw [e0, e1, e2, e3]; rfl⟩
set_option maxRecDepth 100000 in
theorem contract (H : Type) (enc : TypeId × Value → H) (W : World) (base : Nat) (args : Array Value) (ds gs : List (DataW H)) (before : List MemPlace)
  (hval : ∀ (j : Nat) t v, Tryz.f3.params[j]? = some t → args[j]? = some v → Value.okWide Tryz.prog W .any base t v)
  (hW : DataW.Whole enc Tryz.prog Tryz.f3.params.toList Rows.enginePlaysSpec.vars false W args.toList ds gs before) (hL : laidMetH Tryz.prog Rows.enginePlaysRow.laid W) :
  Calls Tryz.prog 3 args W fun e W' => ∃ v, e = .returned v ∧ Rows.enginePlaysSpec.post enc Tryz.prog Tryz.f3 false true false false W args v W' := by
 have hW' := hW
 obtain ⟨p, q, hA0, hV, rfl, hfz, hnd⟩ := hW
 have hA : DataW.TrodAll enc Tryz.prog W 0 (fun _ => true) true Tryz.f3.params.toList args.toList ds p := hA0
 rw [Tryz.params3] at hA hval
 obtain ⟨v0, vs0, d0, ds0, p0, q0, hargs, rfl, rfl, h0, r0⟩ := trodAll_cons hA
 obtain ⟨v1, vs1, d1, ds1, p1, q1, rfl, rfl, rfl, h1, r1⟩ := trodAll_cons r0
 obtain ⟨v2, vs2, d2, ds2, p2, q2, rfl, rfl, rfl, h2, r2⟩ := trodAll_cons r1
 obtain ⟨v3, vs3, d3, ds3, p3, q3, rfl, rfl, rfl, h3, r3⟩ := trodAll_cons r2
 obtain ⟨rfl, rfl, rfl⟩ := trodAll_nil r3
 obtain rfl : args = #[v0, v1, v2, v3] := Array.ext' hargs
 have hv0 := hval 0 3 v0 rfl rfl
 have hv3 := hval 3 3 v3 rfl rfl
 obtain ⟨n0, rfl, rfl, rfl, _⟩ := open_int Tryz.underlying3 hv0 h0
 obtain ⟨n3, rfl, rfl, rfl, _⟩ := open_int Tryz.underlying3 hv3 h3
 obtain ⟨a1, len1, cap1, rfl⟩ := okWide_slice Tryz.underlying22 (hval 1 22 _ rfl rfl)
 obtain ⟨fuel1, hf1⟩ := h1
 obtain ⟨a2, len2, cap2, rfl⟩ := okWide_slice Tryz.underlying23 (hval 2 23 _ rfl rfl)
 obtain ⟨fuel2, hf2⟩ := h2
 obtain ⟨x1, st, e1, hr1⟩ := argPairs_of Tryz.underlying22 Tryz.underlying101 cellsW rfl rfl cells2 cells2 Tryz.underlying3 Tryz.underlying3 hf1
 obtain ⟨x2, ls, e2, hr2⟩ := argF_of acts4 Tryz.underlying23 cells1 (by omega) elem hf2
 obtain rfl : Value.slice a1 len1 cap1 = x1 := by simpa [Value.cells] using e1
 obtain rfl : Value.slice a2 len2 cap2 = x2 := by simpa [Value.cells] using e2
 clear hA0 hA
 have hE := handle_of_laid hL
 simp only [List.append_nil] at hW'
 refine (eplays_any W n0 n3 _ _ st ls hE hr1 hr2).mono fun e W' ⟨he, hb⟩ => ⟨_, he, ?_⟩
 exact post_law Tryz.laidOut (by kernel_rfl) (by kernel_rfl) Tryz.underlying4 rfl rfl hW' hb
noncomputable def laidWorld (os : Os) : World :=
 { World.holding Tryz.prog os ⟨#[], #[], []⟩ with heap := (World.holding Tryz.prog os ⟨#[], #[], []⟩).heap.modify 0 fun
   | .cells _ t frozen => .cells #[.iface 186 (.agg #[.pointer (some ⟨1, 32, none⟩)])] t frozen
   | o => o }
theorem laid_met (os : Os) : laidMetH Tryz.prog Rows.enginePlaysRow.laid ((laidWorld os).forCall (fun _ _ => 0) ⟨#[], #[.int .i64 0, .slice none 0 0, .slice none 0 0, .int .i64 0], []⟩).memory :=
 laidMetH_of_parts (laidMet_nil _ _) (by kernel_rfl)
theorem reads (os : Os) {H : Type} (enc : TypeId × Value → H) : ∃ places, DataW.whole enc Tryz.prog ((laidWorld os).forCall (fun _ _ => 0) ⟨#[], #[.int .i64 0, .slice none 0 0, .slice none 0 0, .int .i64 0], []⟩).memory Tryz.f3.params.toList Rows.enginePlaysSpec.vars false #[Value.int .i64 0, .slice none 0 0, .slice none 0 0, .int .i64 0].toList 8 = some ([.lit (.int .i64 0), .nil, .nil, .lit (.int .i64 0)], [], places) :=
 ⟨[], by kernel_rfl⟩
set_option maxRecDepth 100000 in
theorem lifted (os : Os) (started : os.Started) (H : Type) (enc : TypeId × Value → H) (F : Stop.Interp) :
  ReturnsInHanded {} Tryz.checked os 3 .any ((OpenSpec.ofChange Rows.enginePlaysSpec).preRow enc Tryz.prog Tryz.f3 Rows.enginePlaysRow.domain false Rows.enginePlaysRow.laid) (((OpenSpec.ofChange Rows.enginePlaysSpec).at F).post enc Tryz.prog Tryz.f3 false true false false) := by
 obtain ⟨places, hx⟩ := reads os enc
 refine returnsInHanded_of_row (C := Tryz.checked) (s := OpenSpec.ofChange Rows.enginePlaysSpec) Tryz.own started (by kernel_rfl) Tryz.func3
  (witness_row_at (enc := enc) (C := Tryz.checked) false (laidWorld os) #[.int .i64 0, .slice none 0 0, .slice none 0 0, .int .i64 0] rfl (by kernel_rfl) (by kernel_rfl) (by kernel_rfl)
   (OpenSpec.preRow_of_cond 8 hx (by kernel_rfl) (fun k hk => by cases hk) (by kernel_rfl) (laid_met os))) ?_
 intro W base args ds gs before hval hW _ _ _ hL _ _
 exact contract H enc W base args ds gs before hval hW hL
theorem said : Rows.EnginePlaysSaid :=
 OpenClaim.holds_of_cond 3 Tryz.f3 rfl rfl rfl rfl rfl rfl rfl ⟨rfl, rfl, rfl, rfl, rfl⟩ rfl rfl rfl rfl rfl (by kernel_rfl) Tryz.func3 (by kernel_rfl)
  (of_decide_eq_true (by kernel_rfl)) (by unfold Func.isWrapper; first | (rw [if_pos (by decide +kernel)]; kernel_rfl) | (rw [if_neg (by decide +kernel)]; exact ⟨rfl, rfl⟩))
  (fun os started H enc _ F => by rw [OpenClaim.pre_eq_preRow]; exact lifted os started H enc F)
theorem plain (f : FuncId) (fn : Func) (hf : Tryz.pinned.checked.prog.funcNamed "interleaf/interleaflaw.EnginePlays" = some f) (hfn : Tryz.pinned.checked.prog.funcs[f]? = some fn) :
  true = Tryz.pinned.checked.prog.looks [] ∧ ∀ (j : Nat) t, fn.params[j]? = some t → Tryz.pinned.checked.prog.wantsStandIn t = false := by
 obtain rfl : f = 3 := Option.some.inj ((show Tryz.prog.funcNamed "interleaf/interleaflaw.EnginePlays" = some 3 by kernel_rfl).symm.trans hf) |>.symm
 obtain rfl : fn = Tryz.f3 := (Option.some.inj (Tryz.func3.symm.trans hfn)).symm
 refine ⟨by kernel_rfl, fun j t ht => ?_⟩
 rw [Tryz.params3] at ht
 have hall : (#[3, 22, 23, 3] : Array Nat).all (fun t => decide (Tryz.prog.wantsStandIn t = false)) = true := by kernel_rfl
 exact (of_decide_eq_true (Array.all_eq_true_iff_forall_mem.1 hall t (Array.mem_of_getElem? ht)) : Tryz.prog.wantsStandIn t = false)
theorem card : Rows.EnginePlaysCardSaid :=
 Claim7.holds_tied_plain_at .later [] _ _ _ _ said (fun _ h => by cases h) (by kernel_rfl) (fun _ h => by cases h) enginePlays_row_tie rfl ⟨rfl, rfl⟩ (by kernel_rfl) rfl plain (by kernel_rfl)
end Go.Proofs.YtmfngjclccehaaaGreatDoor.enginePlays
