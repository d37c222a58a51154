/- A range over a function, in the words of ownership. No program in sight. -/
import Derived.RangeFuncNested
import Derived.RangeFuncBound
import Derived.RangeFuncCalls
import Derived.RangeFuncLeaves
import Derived.Test.YthdiphfbjlooaaaDoorWords2
namespace Go.Sep
open Go Go.RowKit
variable {P : Program} {w0 w : World} {L : List HProp} {F : Fence} {n : Nat}

theorem S.rot4 {A B C D : HProp} (h : S w0 w (A :: B :: C :: D :: L)) : S w0 w (D :: A :: B :: C :: L) := h.perm (List.perm_middle (l₁ := [A, B, C]))
theorem S.rot5 {A B C D E : HProp} (h : S w0 w (A :: B :: C :: D :: E :: L)) : S w0 w (E :: A :: B :: C :: D :: L) := h.perm (List.perm_middle (l₁ := [A, B, C, D]))
theorem S.head {A : HProp} (h : S w0 w (A :: L)) : S w0 w [A] := by
  have h2 : S w0 w ([A] ++ L) := h
  exact (h2.conv (M := [all L, A]) (by simp only [all_append, all, sep_emp]; rw [sep_comm])).tail
theorem S.of_mem {A : HProp} (h : S w0 w L) (hA : A ∈ L) : S w0 w [A] := by
  obtain ⟨s, t, rfl⟩ := List.append_of_mem hA
  exact (h.perm (List.perm_middle)).head
/-- A cell of one block of the list is written. -/
theorem S.set_nth (A : List HProp) {B : List HProp} {b : Nat} {e : TypeId} {vs : List Value} (h : S w0 w (A ++ blk b e vs :: B)) (j : Nat) (hj : j < vs.length) (u : Value) : S w0 (w.setCell ⟨b, j, none⟩ u) (A ++ blk b e (vs.set j u) :: B) :=
  ((h.perm List.perm_middle).blk_set j hj u).perm List.perm_middle.symm
theorem S.loop_put {l : Nat} {r r' : Loop} (h : S w0 w (ob l (.loop r) :: L)) : S w0 (w.putObj l (.loop r')) (ob l (.loop r') :: L) := h.set_obj (o' := .loop r') (by simp) (by simp)
theorem S.deferred_put {l : Nat} {d d' : Option (List Deferred)} (h : S w0 w (ob l (.deferred d) :: L)) : S w0 (w.putObj l (.deferred d')) (ob l (.deferred d') :: L) := h.set_obj (o' := .deferred d') (by simp) (by simp)

/-- A round, out of the walks of its two parts. -/
theorem yieldAt_S {l : Nat} {r : Loop} {args : Array Value} {R : Ending → World → Prop} (h : S w0 w (ob l (.loop r) :: L)) (hs : args.size = r.params.size) (hF : F.fn r.fn) (hr : r.state = .ready)
    (hw : r.assign.wpIn (F.inRound l) n P (Exit.then (fun a₁ w₁ => ∃ M, S w0 w₁ (ob l (.loop r) :: M) ∧ ∀ w₂, S w0 w₂ (ob l (.loop { r with state := .busy }) :: M) → r.body.wpIn (F.inRound l) n P (roundPost P l R) a₁ w₂) (fun _ _ _ => False))
      { tmps := (r.params.zip args).foldl (fun tmps (t, a) => tmps.setIfInBounds t a) r.tmps, defers := [] } w) :
    YieldAt F n P l args w R := by
  refine ⟨r.fn, _, r.assign, r.body, run_yield h.obj hs, roundIn_of_wpIn hF ?_⟩
  refine Code.wpIn_mono ?_ hw
  intro e a₁ w₁ hq
  cases e <;> simp only [Exit.then] at hq ⊢
  obtain ⟨M, hS, hb⟩ := hq
  exact ⟨_, run_beginRound hS.obj hr, hb _ hS.loop_put⟩

theorem roundPost_normal {l : Nat} {r : Loop} {R : Ending → World → Prop} {a : Act} (h : S w0 w (ob l (.loop r) :: L)) (hR : ∀ w', S w0 w' (ob l (.loop { r with state := .ready, pending := none }) :: L) → R (.returned (.bool true)) w') : roundPost P l R .normal a w :=
  ⟨_, _, run_endRound none h.obj, hR _ (by simpa using h.loop_put)⟩
theorem roundPost_ret {l : Nat} {r : Loop} {R : Ending → World → Prop} {a : Act} (h : S w0 w (ob l (.loop r) :: L)) (hR : ∀ w', S w0 w' (ob l (.loop { r with state := .done, pending := some .ret }) :: L) → R (.returned (.bool false)) w') : roundPost P l R .ret a w :=
  ⟨_, _, run_endRound (some .ret) h.obj, hR _ (by simpa using h.loop_put)⟩

/-- The statement, at an outermost loop. -/
theorem wpIn_rangeFunc_S {g : Operand} {ps : Array Tmp} {assign body : Code} {Q : Exit → Act → World → Prop} {a : Act} (hro : F.round = none) (hn : F.depth.isSome = true → 1 ≤ n) {gf : FuncId} {cap : Array Value}
    (hg : a.eval g = .func (.func gf) #[] cap) (hF : F.fn gf) (eg : ∀ args w, (callFunc gf args).run P w = .ok (.enter gf args) w)
    (hs : S w0 w L)
    (hc : ∀ fn l D w2, S w0 w2 (ob l (.loop { state := .ready, pending := none, fn, tmps := a.tmps, params := ps, assign, body, defers := D }) :: ob D (.deferred (some [])) :: L) →
      CallsIn F (n - 1) P gf (#[.func (.yield l) #[] #[]] ++ cap) w2 fun e w3 => ∃ v, e = .returned v ∧ ∃ r M, S w0 w3 (ob l (.loop r) :: M) ∧ r.state ≠ .busy ∧
        ∀ w4, S w0 w4 M → match r.pending with | none => Q .normal { a with defers := { target := .collected D, args := #[] } :: a.defers } w4 | some c => c.wpIn F n P Q { a with defers := { target := .collected D, args := #[] } :: a.defers } w4) :
    (Code.rangeFunc g ps assign body).wpIn F n P Q a w := by
  refine wpIn_rangeFunc fun fn hfnF => ?_
  rw [hro]
  have h1 := ((hs.alloc_obj (.deferred (some [])) (by simp)).alloc_obj (.loop { state := .ready, pending := none, fn, tmps := a.tmps, params := ps, assign, body, defers := w.heap.size }) (by simp))
  have he := run_enterLoop_outer (P := P) (w := w) fn a.tmps ps assign body
  rw [World.size_alloc] at h1
  generalize (w.alloc (.deferred (some []))).alloc (.loop { state := .ready, pending := none, fn, tmps := a.tmps, params := ps, assign, body, defers := w.heap.size }) = W1 at h1 he
  refine ⟨w.heap.size + 1, [{ target := .collected w.heap.size, args := #[] }], W1, { target := .fn (.func gf) cap, args := #[.func (.yield (w.heap.size + 1)) #[] #[]] }, W1, gf,
    #[.func (.yield (w.heap.size + 1)) #[] #[]] ++ cap, W1, he, ?_, ?_, ?_, hn, ?_⟩
  · simp only [resolve, hg]
    simp [go_sem]
  · intro f' hf'; simp [Target.leads] at hf'; subst hf'; exact hF
  · simp [invoke, go_sem, eg]
  ·
    refine (hc fn _ _ _ h1).mono ?_
    rintro e w3 ⟨v, rfl, r, M, hS, hb, hq⟩
    exact ⟨_, _, run_endLoop hS.obj hb, hq _ (hS.loop_put (r' := { r with state := .exhausted })).tail⟩
end Go.Sep
