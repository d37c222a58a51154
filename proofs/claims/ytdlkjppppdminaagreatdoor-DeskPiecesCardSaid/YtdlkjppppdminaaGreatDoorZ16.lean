/- The law DeskPieces returns true for every input, and its argument reads afterwards as before; conditions: the package variables that the row lists hold what it says. -/
import Derived.Test.YtdlkjppppdminaaGreatDoorZ0
import Derived.Test.YtdlkjppppdminaaGreatDoorZ15
import Derived.Test.YtdlkjppppdminaaGreatDoorZ13
import Derived.Lib.AppendStr
import Derived.Lib.Builder
import Derived.Test.YtdlkjppppdminaaGreatDoorZ9
import Derived.Test.YtdlkjppppdminaaGreatDoorZ4
import Derived.Shelf.Strings.BuilderK
import Derived.Test.YtdlkjppppdminaaGreatDoorZ5
import Derived.Test.YtdlkjppppdminaaGreatDoorZ1
import Derived.Lay
import Derived.Deep.DeepWitnessRef
import Derived.Lib.LaidTab
import Derived.Shelf.Vars
import Derived.SizedLaws
/- The desk's line. -/
namespace Go.Proofs.YtdlkjppppdminaaGreatDoor
open Go Go.RowKit Go.Sep
def Ans.text : Ans → List UInt8
 | .ok s => s
 | .no e => [101, 114, 114, 111, 114, 32] ++ num e
def Ans.fit : Ans → Prop
 | .ok _ => True
 | .no e => I64 e
noncomputable def lineP (B : Bas) (s : List UInt8) : Bas × Ans := match wordsL s with
 | [] => (B, .ok [111, 107])
 | c :: ws => match cmdP c with
  | none => (B, .no 3)
  | some f => f B ws
theorem _root_.Go.Sep.S.sl_gone {w0 w : World} {L : List HProp} {e size g o n cap : Nat} {xs : List Value} (h : S w0 w (sl e size (.slice (some ⟨g, o, none⟩) n cap) n xs :: L)) : S w0 w (sl e size (.slice (some ⟨g, o, none⟩) 0 0) 0 [] :: L) := by
 rcases h.sl_elim with ⟨hv, _⟩ | ⟨g', cap', pre, sp, post, hp, k⟩
 ·simp at hv
 ·have hv := hp.val
  simp at hv
  obtain ⟨⟨rfl, rfl⟩, rfl⟩ := hv
  exact .sl_intro (g := g) (cap := 0) (pre := pre) (sp := []) (post := xs ++ (sp ++ post)) ⟨rfl, by simp, by simp, Nat.le_refl _, by unfold maxLen; omega⟩ (by simpa using k)
set_option linter.unusedVariables false in
set_option linter.unusedSimpArgs false in
set_option maxRecDepth 40000 in
set_option maxHeartbeats 8000000 in
theorem dline_any (w0 w : World) (k d : Nat) (B : Bas) (s : List UInt8) (L : List HProp) (N : Nat) (hE : ErrT w0) (hL : LibAll w0) (hl : s.length ≤ 90000) (hB : BasOk N B) (hN : N ≤ 80000000) (hfit : (lineP B s).2.fit)
  (hs : S w0 w (deskP k d B :: L)) :
  Calls Tryz.prog 9 #[.pointer (some ⟨k, 0, none⟩), .string ⟨s.toArray⟩] w fun r w' => r = .returned (.string ⟨(lineP B s).2.text.toArray⟩) ∧ S w0 w' (deskP k d (lineP B s).1 :: L) := by
 have hmf : ∀ (fn : Fn) (first cap : Array Value) (w : World), (Instr.makeFunc fn first cap).run Tryz.prog w = .ok (.func fn first cap) w := fun _ _ _ _ => rfl
 have hs1 := hs.alloc #[.string ⟨#[]⟩] 9
 have hfi := fields_any w0 _ s _ hl hs1
 have hff := words_fit hl
 have HLB := hid hL
 unfold lineP at hfit ⊢
 generalize wordsL s = W at hfi hff hfit ⊢
 cases W with
 | nil =>
  have HFI := hid hfi
  clear hs hs1 hfi hff hfit
  go_enter_defers Tryz.func9, Tryz.ntmps9
  go_wp2_with (go_at_call 20; with_reducible refine HFI.out.mono ?_; rintro r w2 ⟨v, rfl, hs2⟩; obtain ⟨a, cap, rfl, hc1, hc2, _⟩ := hs2.sl_val; have c0 := hs2.tail.blk_cell 0 rfl; have f0 := hs2.tail.blk_free 0; have H2 := hid hs2; clear hs2)
  have h3 := H2.out.tail.blk_set 0 (by simp) (.string ⟨#[111, 107]⟩)
  refine leaves_cons (f := 18) (args := #[.pointer (some ⟨w.heap.size, 0, none⟩)]) (by simp) (by simp [go_sem]) ?_
  refine (line1_still w0 _ _ _ h3).mono ?_
  rintro e u' w'' ⟨rfl, rfl, h4⟩
  have c4 := h4.blk_cell 0 rfl
  refine ⟨_, ?_, rfl, h4.tail⟩
  simp [results, Tryz.results9, go_sem, c4]
  try rfl
 | cons c ws =>
  have hq0 : ∀ w, (binOp .eql 32 .nilFunc .nilFunc).run Tryz.prog w = .ok (.bool true) w := fun w => by kernel_rfl
  have hq1 : ∀ n p w, (binOp .eql 32 (.func (.func n) #[p] #[]) .nilFunc).run Tryz.prog w = .ok (.bool false) w := fun n p w => by kernel_rfl
  have hdo := fun W M h => does_any w0 W k ⟨c.toArray⟩ M h
  have hcd := cmd_does c k
  generalize doesV k ⟨c.toArray⟩ = dv at hdo hcd
  have hlen : ((c :: ws).length : Int) ≠ 0 := by simp; omega
  rcases hcd with ⟨e1, rfl⟩ | ⟨f, n, e1, rfl, hen, hcl⟩
  ·simp only [e1] at hfit ⊢
   have HFI := hid hfi; have HDO := hid hdo; have HMU := hid (fun W M h => errForm w0 W M hE h)
   clear hs hs1 hfi hff hfit hdo e1
   go_enter_defers Tryz.func9, Tryz.ntmps9
   go_wp2_with (first
    | (go_at_call 20; with_reducible refine HFI.out.mono ?_; rintro r w2 ⟨v, rfl, hs2⟩; obtain ⟨g, oo, cap, rfl, hc1, hc2, _, _, hcc, _⟩ := hs2.sl_some (by simp [sw]); have c1 := hcc 0 _ rfl; simp only [List.length_cons, Nat.add_zero] at hc1 hs2 c1; unfold maxLen at hc2; have H2 := hid hs2; clear hs2 hcc)
    | (go_at_call 22; with_reducible refine (HDO.out _ _ H2.out).mono ?_; rintro r w3 ⟨rfl, hs3⟩; have H3 := hid hs3; clear hs3)
    | (go_at_call 14; with_reducible refine (HMU.out _ _ H3.out).mono ?_; rintro r w4 ⟨rfl, hs4⟩; have H4 := hid hs4; clear hs4))
   refine leaves_cons (f := 18) (args := #[.pointer (some ⟨w.heap.size, 0, none⟩)]) (by simp) (by simp [go_sem]) ?_
   refine (line1_panic w0 _ _ 3 (by unfold I64; omega) _ _ HLB.out H4.out.tail).mono ?_
   rintro e u' w'' ⟨rfl, rfl, h4⟩
   have c4 := h4.blk_cell 0 rfl
   refine ⟨_, ?_, rfl, h4.tail⟩
   simp [results, Tryz.results9, go_sem, c4]
   try rfl
  ·simp only [e1] at hfit ⊢
   have hf2 : Fits ws := ⟨by have := hff.1; simp only [List.length_cons] at this; omega, fun x hx => hff.2 x (by simp [hx])⟩
   simp only [fnV] at hdo
   have hgo := fun W d v M h => hcl w0 W k d B v ws M N hE hL hf2 hB hN h
   generalize f B ws = R at hgo hfit ⊢
   obtain ⟨B', an⟩ := R
   simp only at hgo hfit ⊢
   cases an with
   | ok x =>
    simp only [Ans.ends, Ans.text] at hgo ⊢
    have HFI := hid hfi; have HDO := hid hdo; have HGO := hid hgo; have HFT := hid hfit
    clear hs hs1 hfi hff hfit hdo e1 hgo hcl hf2
    go_enter_defers Tryz.func9, Tryz.ntmps9
    go_wp2_with (first
     | (go_at_call 20; with_reducible refine HFI.out.mono ?_; rintro r w2 ⟨v, rfl, hs2⟩; obtain ⟨g, oo, cap, rfl, hc1, hc2, _, _, hcc, _⟩ := hs2.sl_some (by simp [sw]); have c1 := hcc 0 _ rfl; simp only [List.length_cons, Nat.add_zero] at hc1 hs2 c1; unfold maxLen at hc2; have H2 := hid hs2; clear hs2 hcc)
     | (go_at_call 22; with_reducible refine (HDO.out _ _ H2.out).mono ?_; rintro r w3 ⟨rfl, hs3⟩; have H3 := hid hs3; clear hs3))
    ·have hw : ws = [] := List.eq_nil_of_length_eq_zero (by omega)
     subst hw
     have h5 := hid (S.conv (M := deskP k d B :: sl 9 1 (.slice (some ⟨g, oo, none⟩) ([] : List (List UInt8)).length 0) ([] : List (List UInt8)).length (sw []) :: blk w.heap.size 9 [.string ⟨#[]⟩] :: L) (H3.out.sl_gone) (by simp only [all, sw, List.map_nil, List.length_nil]; ac_rfl))
     with_reducible refine (HGO.out _ _ _ _ h5.out).mono ?_
     rintro r w5 ⟨rfl, hs5⟩
     have c0 := hs5.swap.blk_cell 0 rfl
     have f0 := hs5.swap.blk_free 0
     have H6 := hid hs5.swap
     clear hs5 h5
     go_wp2_with fail
     have h3 := H6.out.blk_set 0 (by simp) (.string ⟨x.toArray⟩)
     refine leaves_cons (f := 18) (args := #[.pointer (some ⟨w.heap.size, 0, none⟩)]) (by simp) (by simp [go_sem]) ?_
     refine (line1_still w0 _ _ _ h3).mono ?_
     rintro e u' w'' ⟨rfl, rfl, h4⟩
     have c4 := h4.blk_cell 0 rfl
     refine ⟨_, ?_, rfl, h4.tail⟩
     simp [results, Tryz.results9, go_sem, c4]
     try rfl
    ·have h5 := hid (S.conv (M := deskP k d B :: sl 9 1 (.slice (some ⟨g, oo + 1, none⟩) ws.length (cap - 1)) ws.length (sw ws) :: blk w.heap.size 9 [.string ⟨#[]⟩] :: L) (H3.out.sl_drop 1 (by omega)) (by simp only [all, sw, List.map_cons, Nat.mul_one, Nat.add_sub_cancel, List.drop_succ_cons, List.drop_zero]; ac_rfl))
     with_reducible refine (HGO.out _ _ _ _ h5.out).mono ?_
     rintro r w5 ⟨rfl, hs5⟩
     have c0 := hs5.swap.blk_cell 0 rfl
     have f0 := hs5.swap.blk_free 0
     have H6 := hid hs5.swap
     clear hs5 h5
     go_wp2_with fail
     have h3 := H6.out.blk_set 0 (by simp) (.string ⟨x.toArray⟩)
     refine leaves_cons (f := 18) (args := #[.pointer (some ⟨w.heap.size, 0, none⟩)]) (by simp) (by simp [go_sem]) ?_
     refine (line1_still w0 _ _ _ h3).mono ?_
     rintro e u' w'' ⟨rfl, rfl, h4⟩
     have c4 := h4.blk_cell 0 rfl
     refine ⟨_, ?_, rfl, h4.tail⟩
     simp [results, Tryz.results9, go_sem, c4]
     try rfl
   | no e =>
    simp only [Ans.ends, Ans.text] at hgo ⊢
    have HFI := hid hfi; have HDO := hid hdo; have HGO := hid hgo; have HFT := hid hfit
    clear hs hs1 hfi hff hfit hdo e1 hgo hcl hf2
    go_enter_defers Tryz.func9, Tryz.ntmps9
    go_wp2_with (first
     | (go_at_call 20; with_reducible refine HFI.out.mono ?_; rintro r w2 ⟨v, rfl, hs2⟩; obtain ⟨g, oo, cap, rfl, hc1, hc2, _, _, hcc, _⟩ := hs2.sl_some (by simp [sw]); have c1 := hcc 0 _ rfl; simp only [List.length_cons, Nat.add_zero] at hc1 hs2 c1; unfold maxLen at hc2; have H2 := hid hs2; clear hs2 hcc)
     | (go_at_call 22; with_reducible refine (HDO.out _ _ H2.out).mono ?_; rintro r w3 ⟨rfl, hs3⟩; have H3 := hid hs3; clear hs3))
    ·have hw : ws = [] := List.eq_nil_of_length_eq_zero (by omega)
     subst hw
     have h5 := hid (S.conv (M := deskP k d B :: sl 9 1 (.slice (some ⟨g, oo, none⟩) ([] : List (List UInt8)).length 0) ([] : List (List UInt8)).length (sw []) :: blk w.heap.size 9 [.string ⟨#[]⟩] :: L) (H3.out.sl_gone) (by simp only [all, sw, List.map_nil, List.length_nil]; ac_rfl))
     with_reducible refine (HGO.out _ _ _ _ h5.out).mono ?_
     rintro r w5 ⟨rfl, hs5⟩
     refine leaves_cons (f := 18) (args := #[.pointer (some ⟨w.heap.size, 0, none⟩)]) (by simp) (by simp [go_sem]) ?_
     refine (line1_panic w0 _ _ e HFT.out _ _ HLB.out hs5.swap).mono ?_
     rintro e u' w'' ⟨rfl, rfl, h4⟩
     have c4 := h4.blk_cell 0 rfl
     refine ⟨_, ?_, rfl, h4.tail⟩
     simp [results, Tryz.results9, go_sem, c4]
     try rfl
    ·have h5 := hid (S.conv (M := deskP k d B :: sl 9 1 (.slice (some ⟨g, oo + 1, none⟩) ws.length (cap - 1)) ws.length (sw ws) :: blk w.heap.size 9 [.string ⟨#[]⟩] :: L) (H3.out.sl_drop 1 (by omega)) (by simp only [all, sw, List.map_cons, Nat.mul_one, Nat.add_sub_cancel, List.drop_succ_cons, List.drop_zero]; ac_rfl))
     with_reducible refine (HGO.out _ _ _ _ h5.out).mono ?_
     rintro r w5 ⟨rfl, hs5⟩
     refine leaves_cons (f := 18) (args := #[.pointer (some ⟨w.heap.size, 0, none⟩)]) (by simp) (by simp [go_sem]) ?_
     refine (line1_panic w0 _ _ e HFT.out _ _ HLB.out hs5.swap).mono ?_
     rintro e u' w'' ⟨rfl, rfl, h4⟩
     have c4 := h4.blk_cell 0 rfl
     refine ⟨_, ?_, rfl, h4.tail⟩
     simp [results, Tryz.results9, go_sem, c4]
     try rfl
end Go.Proofs.YtdlkjppppdminaaGreatDoor
/- What the desk's commands answer, is not too long. No walk in sight. -/
namespace Go.Proofs.YtdlkjppppdminaaGreatDoor
open Go Go.RowKit Go.Sep
section
variable {B : Bas} {c : Nat}
def FitL (a : Ans) : Prop := a.fit ∧ a.text.length ≤ 400000
theorem fit_no {e : Int} (he : I64 e) : FitL (.no e) := ⟨he, by
 have := num_len20 he
 show ([101, 114, 114, 111, 114, 32] ++ num e).length ≤ 400000
 rw [List.length_append]; simp only [List.length_cons, List.length_nil]; omega⟩
theorem fit_3 : FitL (.no 3) := fit_no (by unfold I64; omega)
theorem fit_ok {s : List UInt8} (h : s.length ≤ 400000) : FitL (.ok s) := ⟨trivial, h⟩
theorem fit_ansE {e : Int} {s : List UInt8} (he : I64 e) (h : s.length ≤ 400000) : FitL (ansE e s) := by
 unfold ansE
 split
 ·exact fit_ok h
 ·exact fit_no he
theorem small64 {x : Int} (h : 0 ≤ x ∧ x ≤ 100) : I64 x := by unfold I64; omega
theorem err_small (e : Eng) (n : Int) (op : Bool) : 0 ≤ e.err n op ∧ e.err n op ≤ 100 := by
 unfold Eng.err
 split
 ·omega
 ·split <;> omega
def FitsD (f : Cmd) : Prop := ∀ (c : Nat) (B : Bas) ws, c ≤ 3000 → DeskI c B → FitL (f B ws).2
theorem dfit_begin : FitsD cBegin := fun c B ws hc h => by
 unfold cBegin
 split
 ·rename_i a _
  have h1 := num_len20 (begin_I64 h.ok a)
  refine fit_ansE (small64 ?_) (by omega)
  unfold Eng.begin_
  split
  ·simp
  split
  ·simp
  split <;> simp
 ·exact fit_3
theorem dfit_read : FitsD cRead := fun c B ws hc h => by
 unfold cRead
 split
 ·rename_i a a2 _
  have h1 := num_len20 ((h.bas hc).d.rd a a2)
  refine fit_ansE (small64 ?_) (by rw [List.length_append]; simp only [List.length_cons, List.length_nil]; omega)
  have hes := err_small B.eng a true
  unfold Eng.read
  split
  ·exact hes
  ·simp only
   split
   ·simp
   split
   ·simp
   split
   ·split
    ·split <;> simp
    ·simp
   ·split <;> simp
 ·exact fit_3
theorem write_small {e : Eng} {n key value : Int} (hwb : WhyB (e.write n key value).1) : 0 ≤ (e.write n key value).2.2 ∧ (e.write n key value).2.2 ≤ 100 := by
 have hes := err_small e n true
 unfold Eng.write at hwb ⊢
 by_cases h1 : e.err n true ≠ 0
 ·rw [if_pos h1]; exact hes
 rw [if_neg h1] at hwb ⊢
 by_cases h2 : ¬ keyOk key
 ·rw [if_pos h2]; simp
 rw [if_neg h2] at hwb ⊢
 by_cases h3 : ¬ valOk value
 ·rw [if_pos h3]; simp
 rw [if_neg h3] at hwb ⊢
 simp only at hwb ⊢
 split
 ·simp
 ·rename_i h4
  rw [if_neg h4] at hwb
  split
  ·simp
  ·rename_i h5
   rw [if_neg h5] at hwb
   split
   ·rename_i h6
    rw [if_pos h6] at hwb
    have := hwb (n.toNat - 1)
    exact ⟨this.1, Int.le_trans this.2 (by omega)⟩
   ·simp
theorem dfit_write : FitsD cWrite := fun c B ws hc h => by
 unfold cWrite
 split
 ·exact fit_ansE (small64 (write_small (h.why.wrote h.ok _ _ _))) (by split <;> simp)
 ·exact fit_3
theorem dfit_abort : FitsD cAbort := fun c B ws hc h => by
 unfold cAbort
 split
 ·rename_i a _
  refine fit_ansE (small64 ?_) (by simp)
  have hes := err_small B.eng a false
  unfold Eng.abort
  split
  ·exact hes
  split <;> simp
 ·exact fit_3
theorem dfit_state : FitsD cState := fun c B ws hc h => by
 unfold cState
 split
 ·rename_i a _
  have hst := (h.bas hc).d.st a
  have h1 := joinL_len (l := [(B.eng.state a).1, (B.eng.state a).2.1]) (by simp only [List.mem_cons, List.not_mem_nil, or_false]; rintro z (rfl | rfl) <;> first | exact hst.1 | exact hst.2)
  refine fit_ansE (small64 ?_) (by simp only [List.length_cons, List.length_nil] at h1; omega)
  have hes := err_small B.eng a false
  unfold Eng.state
  split
  ·exact hes
  ·simp
 ·exact fit_3
theorem dfit_waits : FitsD cWaits := fun c B ws hc h => by
 unfold cWaits
 split
 ·rename_i a _
  have h1 := num_len20 ((h.bas hc).d.wt a)
  exact fit_ok (by omega)
 ·exact fit_3
theorem dfit_sweep : FitsD cSweep := fun c B ws hc h => by
 unfold cSweep
 split
 ·have h1 := num_len20 (h.bas hc).d.sw
  exact fit_ok (by omega)
 ·exact fit_3
theorem dfit_help : FitsD cHelp := fun c B ws hc h => by
 unfold cHelp
 split
 ·exact fit_ok (by decide)
 ·exact fit_3
theorem dfit_cut : FitsD cCut := fun c B ws hc h => by
 unfold cCut
 split
 ·exact fit_ok (by decide)
 ·exact fit_3
theorem dfit_open : FitsD cOpen := fun c B ws hc h => by
 unfold cOpen
 split
 ·exact fit_ok (by decide)
 ·exact fit_3
theorem dfit_commit : FitsD cCommit := fun c B ws hc h => by
 unfold cCommit
 split
 ·rename_i a _
  refine fit_ansE (small64 ?_) (by simp)
  have hes := err_small B.eng a false
  have hes2 := err_small B.eng a true
  have hw : 0 ≤ (B.eng.writes a).2 ∧ (B.eng.writes a).2 ≤ 100 := by
   unfold Eng.writes
   split
   ·exact hes
   ·simp
  have hr : 0 ≤ B.eng.ready a ∧ B.eng.ready a ≤ 100 := by
   unfold Eng.ready
   split
   ·exact hes2
   split <;> simp
  unfold Bas.commit
  split
  ·exact hw
  split
  ·exact hr
  split
  ·simp
  split
  ·simp
  split <;> simp
 ·exact fit_3
theorem dfit_all : FitsD cAll := fun c B ws hc h => by
 unfold cAll
 split
 ·have hal := (h.bas hc).d.al
  have h10 : B.eng.allV.length ≤ 10 := by unfold Eng.allV; exact allL_le _ 10
  have hjb := join_bound (B.eng.allV.map pairText) [44, 32] 42 (fun x hx => by
   obtain ⟨p, hp, rfl⟩ := List.mem_map.1 hx
   exact pairText_len (hal p hp))
  rw [List.length_map] at hjb
  refine fit_ok ?_
  rw [List.length_append]; simp only [List.length_cons, List.length_nil] at hjb ⊢; omega
 ·exact fit_3
theorem dfit_hist : FitsD cHist := fun c B ws hc h => by
 unfold cHist
 split
 ·have hhl := (h.bas hc).d.hl
  have hhi := (h.bas hc).d.hi
  have hjb := join_bound (B.eng.hist.map opText) [44, 32] 66 (fun x hx => by
   obtain ⟨p, hp, rfl⟩ := List.mem_map.1 hx
   exact opText_len (hhi p hp))
  rw [List.length_map] at hjb
  refine fit_ok ?_
  rw [List.length_append]; simp only [List.length_cons, List.length_nil] at hjb ⊢; omega
 ·exact fit_3
theorem dfit_now : FitsD cNow := fun c B ws hc h => by
 unfold cNow
 split
 ·have f1 := h.ok.few; have f2 := h.ok.last; have f3 := h.used; have f4 := (h.bas hc).d.mn
  have h1 := joinL_len (l := [(B.eng.txs.length : Int), B.eng.last, manyV B.eng.V, B.used]) (by
   intro x hx
   simp only [List.mem_cons, List.not_mem_nil, or_false] at hx
   rcases hx with rfl | rfl | rfl | rfl
   ·unfold I64; omega
   ·unfold I64; omega
   ·exact f4
   ·unfold I64; omega)
  have hfb : (Lib.formatBool B.down).length ≤ 5 := by cases B.down <;> decide
  refine fit_ok ?_
  simp only [List.length_append, List.length_cons, List.length_nil] at h1 ⊢; omega
 ·exact fit_3
theorem txs_len (l : List Op1) : (txsOf l).length ≤ l.length := by
 induction l using snoc_induct with
 | h0 => simp [txsOf]
 | h1 l o ih =>
  rw [txsOf_snoc, List.length_append, List.length_singleton]
  unfold tstep
  split
  ·omega
  ·rw [List.length_append, List.length_singleton]; omega
theorem line2_fit (l : List Op1) (hl : ∀ o ∈ l, I64 o.tx ∧ I64 o.key ∧ I64 o.fr) : I64 (lineOf2 l).2 ∧ (∀ x ∈ (lineOf2 l).1, I64 x) ∧ (lineOf2 l).1.length ≤ l.length := by
 by_cases hx : ∃ r : List Int × Int × Int, LineOut l r.1 r.2.1 r.2.2
 ·obtain ⟨⟨la, f, p⟩, hx⟩ := hx
  rw [lineOf2_is hx]
  refine ⟨?_, line_I64 hx hl, ?_⟩
  ·rcases hx with ⟨_, _, rfl, _⟩ | ⟨_, _, _, _, rfl, _⟩ | ⟨_, _, es, _, ⟨_, rfl, _⟩ | ⟨_, _, rfl, _⟩⟩ <;> exact small64 (by simp)
  ·rcases hx with ⟨_, rfl, _⟩ | ⟨_, _, _, rfl, _⟩ | ⟨_, _, es, _, ⟨h5, _⟩ | ⟨_, rfl, _⟩⟩
   ·simp
   ·simp
   ·have h6 := (lineL_some es _ (txsOf_nodup l) h5).1
    rw [h6.length_eq]; exact txs_len l
   ·simp
 ·unfold lineOf2
  rw [dif_neg hx]
  exact ⟨zero64, by simp, by simp⟩
theorem dfit_ranks : FitsD cRanks := fun c B ws hc h => by
 unfold cRanks
 split
 ·have h1 := line2_fit B.eng.hist (h.bas hc).d.hi
  have h2 := (h.bas hc).d.hl
  have h3 := joinL_len h1.2.1
  refine fit_ansE h1.1 ?_
  rw [List.length_append]; simp only [List.length_cons, List.length_nil]; omega
 ·exact fit_3
theorem cmd_well {w : List UInt8} {f : Cmd} (h : cmdP w = some f) : KeepsD f ∧ FitsD f := by
 obtain ⟨r1, r2, r3, r4, r5, r6, r7⟩ := dkeeps_rest
 unfold cmdP at h
 by_cases h0 : w = [119, 114, 105, 116, 101]
 ·rw [if_pos h0] at h
  obtain rfl := Option.some.inj h
  exact ⟨dkeeps_write, dfit_write⟩
 rw [if_neg h0] at h
 by_cases h1 : w = [119, 97, 105, 116, 115]
 ·rw [if_pos h1] at h
  obtain rfl := Option.some.inj h
  exact ⟨r2, dfit_waits⟩
 rw [if_neg h1] at h
 by_cases h2 : w = [115, 119, 101, 101, 112]
 ·rw [if_pos h2] at h
  obtain rfl := Option.some.inj h
  exact ⟨dkeeps_sweep, dfit_sweep⟩
 rw [if_neg h2] at h
 by_cases h3 : w = [115, 116, 97, 116, 101]
 ·rw [if_pos h3] at h
  obtain rfl := Option.some.inj h
  exact ⟨r1, dfit_state⟩
 rw [if_neg h3] at h
 by_cases h4 : w = [114, 101, 97, 100]
 ·rw [if_pos h4] at h
  obtain rfl := Option.some.inj h
  exact ⟨dkeeps_read, dfit_read⟩
 rw [if_neg h4] at h
 by_cases h5 : w = [111, 112, 101, 110]
 ·rw [if_pos h5] at h
  obtain rfl := Option.some.inj h
  exact ⟨dkeeps_open, dfit_open⟩
 rw [if_neg h5] at h
 by_cases h6 : w = [110, 111, 119]
 ·rw [if_pos h6] at h
  obtain rfl := Option.some.inj h
  exact ⟨r6, dfit_now⟩
 rw [if_neg h6] at h
 by_cases h7 : w = [108, 105, 110, 101]
 ·rw [if_pos h7] at h
  obtain rfl := Option.some.inj h
  exact ⟨r5, dfit_ranks⟩
 rw [if_neg h7] at h
 by_cases h8 : w = [104, 105, 115, 116, 111, 114, 121]
 ·rw [if_pos h8] at h
  obtain rfl := Option.some.inj h
  exact ⟨r7, dfit_hist⟩
 rw [if_neg h8] at h
 by_cases h9 : w = [104, 101, 108, 112]
 ·rw [if_pos h9] at h
  obtain rfl := Option.some.inj h
  exact ⟨r3, dfit_help⟩
 rw [if_neg h9] at h
 by_cases h10 : w = [99, 117, 116]
 ·rw [if_pos h10] at h
  obtain rfl := Option.some.inj h
  exact ⟨dkeeps_cut, dfit_cut⟩
 rw [if_neg h10] at h
 by_cases h11 : w = [99, 111, 109, 109, 105, 116]
 ·rw [if_pos h11] at h
  obtain rfl := Option.some.inj h
  exact ⟨dkeeps_commit, dfit_commit⟩
 rw [if_neg h11] at h
 by_cases h12 : w = [98, 101, 103, 105, 110]
 ·rw [if_pos h12] at h
  obtain rfl := Option.some.inj h
  exact ⟨dkeeps_begin, dfit_begin⟩
 rw [if_neg h12] at h
 by_cases h13 : w = [97, 108, 108]
 ·rw [if_pos h13] at h
  obtain rfl := Option.some.inj h
  exact ⟨r4, dfit_all⟩
 rw [if_neg h13] at h
 by_cases h14 : w = [97, 98, 111, 114, 116]
 ·rw [if_pos h14] at h
  obtain rfl := Option.some.inj h
  exact ⟨dkeeps_abort, dfit_abort⟩
 rw [if_neg h14] at h
 cases h
theorem line_well {s : List UInt8} (hc : c ≤ 3000) (h : DeskI c B) : DeskI (c + 1) (lineP B s).1 ∧ FitL (lineP B s).2 := by
 unfold lineP
 split
 ·exact ⟨h.up, fit_ok (by decide)⟩
 ·rename_i w ws _
  cases hw : cmdP w with
  | none => exact ⟨h.up, fit_3⟩
  | some f => exact ⟨(cmd_well hw).1 c B ws hc h, (cmd_well hw).2 c B ws hc h⟩
end
end Go.Proofs.YtdlkjppppdminaaGreatDoor
/- The desk's first opening. -/
namespace Go.Proofs.YtdlkjppppdminaaGreatDoor
open Go Go.RowKit Go.Sep
def Bas.over (D : Dsk) : Bas := ⟨D.setCut (-1), (D.setCut (-1)).engine, (D.setCut (-1)).opens.1, false, -1⟩
set_option linter.unusedVariables false in
set_option linter.unusedSimpArgs false in
set_option maxRecDepth 40000 in
set_option maxHeartbeats 8000000 in
theorem open0_any (w0 w : World) (k d : Nat) (D : Dsk) (pv : Value) (L : List HProp) (hE : ErrT w0) (hL : LibAll w0) (hpl : ∀ t ∈ D.places, t.length ≤ 2000)
  (hs : S w0 w (blk k 31 [.pointer (some ⟨d, 0, none⟩), pv] :: dskB d D :: L)) :
  Calls Tryz.prog 5 #[.pointer (some ⟨k, 0, none⟩), .slice none 0 0] w fun r w' => r = .returned (.string ⟨([111, 112, 101, 110] : List UInt8).toArray⟩) ∧ S w0 w' (deskP k d (Bas.over D) :: L) := by
 have h1 : S w0 w (sl 9 1 (.slice none 0 0) ([] : List (List UInt8)).length (sw []) :: blk k 31 [.pointer (some ⟨d, 0, none⟩), pv] :: dskB d D :: L) := hs.sl_nil
 have HNU := hid (numbers_ok w0 w _ [] 0 0 rfl [] _ hE hL ⟨by simp, by simp⟩ rfl h1)
 have hop := fun W (M : List HProp) h => dcut_any w0 W d D (-1) M h
 have hto := fun W (M : List HProp) h => openg_any w0 W d (D.setCut (-1)) M hL hpl h
 have hq : ∀ W (M : List HProp), S w0 W (blk k 31 [.pointer (some ⟨d, 0, none⟩), pv] :: M) → W.cell? ⟨k, 0, none⟩ = some (.pointer (some ⟨d, 0, none⟩)) ∧ W.cell? ⟨k, 1, none⟩ = some pv ∧ W.frozen? ⟨k, 1, none⟩ = false := fun W M h => ⟨h.blk_cell 0 rfl, h.blk_cell 1 rfl, h.blk_free 1⟩
 have HOP := hid hop; have HTO := hid hto; have HQ := hid hq
 clear hs h1 hL hE hop hto hq hpl
 go_enter Tryz.func5, Tryz.ntmps5
 go_wp2_with (first
  | (go_at_call 11; with_reducible refine HNU.out.mono ?_; rintro r w2 ⟨u, rfl, hs2⟩; have H2 := hid (hs2.conv (M := dskB d D :: blk k 31 [.pointer (some ⟨d, 0, none⟩), pv] :: sl 3 1 u 0 (icells []) :: L) (by simp only [all, List.length_nil]; ac_rfl)); obtain ⟨k0, k1, k2⟩ := HQ.out _ _ H2.out.swap; clear hs2)
  | (go_at_call 12; with_reducible refine (HOP.out _ _ H2.out).mono ?_; rintro r w3 ⟨rfl, hs3⟩; obtain ⟨k0, k1, k2⟩ := HQ.out _ _ hs3.swap; have H3 := hid hs3; clear hs3)
  | (go_at_call 13; with_reducible refine (HTO.out _ _ H3.out).mono ?_; rintro r w4 ⟨b4, e4, rfl, _, hs4⟩; have h4 := hs4.conv (M := blk k 31 [.pointer (some ⟨d, 0, none⟩), pv] :: bseB b4 d (.pointer (some ⟨e4, 0, none⟩)) (D.setCut (-1)).opens.1 false (-1) :: engP e4 [] (D.setCut (-1)).engine :: dskB d (D.setCut (-1)) :: sl 3 1 u 0 (icells []) :: L) (by simp only [all]; ac_rfl); obtain ⟨k0, k1, k2⟩ := HQ.out _ _ h4; have H5 := hid (h4.blk_set 1 (by simp) (.pointer (some ⟨b4, 0, none⟩))); clear hs4 h4)
  | (go_at_call 14; with_reducible refine (must_nil _).mono ?_; rintro r w' ⟨rfl, rfl⟩))
 go_ret
 refine ⟨rfl, S.desk_shut (B := Bas.over D) (b := b4) (eb := e4) (bs := []) ?_⟩
 exact (H5.out.conv (M := sl 3 1 u 0 (icells []) :: blk k 31 [.pointer (some ⟨d, 0, none⟩), .pointer (some ⟨b4, 0, none⟩)] :: bseB b4 d (.pointer (some ⟨e4, 0, none⟩)) (D.setCut (-1)).opens.1 false (-1) :: engP e4 [] (D.setCut (-1)).engine :: dskB d (D.setCut (-1)) :: L) (by simp only [all, List.set_cons_succ, List.set_cons_zero]; ac_rfl)).tail
end Go.Proofs.YtdlkjppppdminaaGreatDoor
/- A buffer that a string is appended to. No program in sight. -/
namespace Go.Sep
open Go Go.RowKit
variable {P : Program} {w0 w : World} {L : List HProp} {e : TypeId} {v : Value} {xs : List Value}
def bufAt (e : TypeId) (v : Value) (xs : List Value) : HProp := ex fun g => ex fun cap => ex fun sp => sep (pur (v = .slice (some ⟨g, 0, none⟩) xs.length cap ∧ xs.length + sp.length = cap ∧ cap ≤ maxLen)) (blk g e (xs ++ sp))
def bufP (e : TypeId) (v : Value) (xs : List Value) : HProp := fun h => pur (v = .slice none 0 0 ∧ xs = []) h ∨ bufAt e v xs h
theorem S.buf_elim (h : S w0 w (bufP e v xs :: L)) : (v = .slice none 0 0 ∧ xs = [] ∧ S w0 w L) ∨ ∃ g cap sp, v = .slice (some ⟨g, 0, none⟩) xs.length cap ∧ xs.length + sp.length = cap ∧ cap ≤ maxLen ∧ S w0 w (blk g e (xs ++ sp) :: L) := by
 rcases S.or_elim h with h | h
 ·obtain ⟨⟨h1, h2⟩, h⟩ := h.pur_elim; exact .inl ⟨h1, h2, h⟩
 ·obtain ⟨g, h⟩ := h.ex_elim
  obtain ⟨cap, h⟩ := h.ex_elim
  obtain ⟨sp, h⟩ := h.ex_elim
  obtain ⟨⟨h1, h2, h3⟩, h⟩ := h.sep_elim.pur_elim
  exact .inr ⟨g, cap, sp, h1, h2, h3, h⟩
theorem S.buf_nil (h : S w0 w L) : S w0 w (bufP e (.slice none 0 0) [] :: L) := (S.pur_intro (p := Value.slice none 0 0 = .slice none 0 0 ∧ ([] : List Value) = []) ⟨rfl, rfl⟩ h).mono fun _ p => .inl p
theorem S.buf_intro {g cap : Nat} {sp : List Value} (h1 : v = .slice (some ⟨g, 0, none⟩) xs.length cap) (h2 : xs.length + sp.length = cap) (h3 : cap ≤ maxLen) (h : S w0 w (blk g e (xs ++ sp) :: L)) : S w0 w (bufP e v xs :: L) :=
 S.mono (P := bufAt e v xs) (.ex_intro g (.ex_intro cap (.ex_intro sp (.sep_intro (.pur_intro ⟨h1, h2, h3⟩ h))))) fun _ p => .inr p
theorem S.append_str (h : S w0 w (bufP e v xs :: L)) (t u ty : TypeId) (i : TypeInfo) (ht : P.underlying t = some (.slice e)) (hu : P.underlying u = some .string) (hi : P.info? e = some i) (hz : i.zero = some (.int .u8 0))
  (hsize : i.size = 1) (hby : i.bytes = 1) (s : ByteArray) (hbytes : xs.length + s.size ≤ 100000000000000) :
  ∃ v' w', (Builtin.append_ #[t, u] ty #[v, .string s]).run P w = .ok v' w' ∧ S w0 w' (bufP e v' (xs ++ Lib.strCells s) :: L) := by
 have grown : ∀ old, old < xs.length + s.size → ∀ L', S w0 w L' →
   S w0 (w.drew.alloc (.cells (xs.toArray ++ (Lib.strCells s).toArray ++ Builtin.zeroCells (Value.int .u8 0).cells (grownCap w (xs.length + s.size) old e - (xs.length + s.size))) e)) (bufP e (.slice (some ⟨w.heap.size, 0, none⟩) (xs.length + s.size) (grownCap w (xs.length + s.size) old e)) (xs ++ Lib.strCells s) :: L') := by
  intro old ho L' hL'
  have hge := grownCap_ge w (xs.length + s.size) old e
  have h2 := hL'.drew.alloc (xs.toArray ++ (Lib.strCells s).toArray ++ Builtin.zeroCells (Value.int .u8 0).cells (grownCap w (xs.length + s.size) old e - (xs.length + s.size))) e
  have hz1 : (Value.int IntKind.u8 0).cells.size = 1 := rfl
  refine .buf_intro (g := w.heap.size) (cap := grownCap w (xs.length + s.size) old e) (sp := (Builtin.zeroCells (Value.int .u8 0).cells (grownCap w (xs.length + s.size) old e - (xs.length + s.size))).toList) ?_ ?_ (grownCap_le_maxLen w (xs.length + s.size) old e (by unfold maxLen; omega)) ?_
  ·rw [List.length_append, Lib.strCells_length]
  ·simp only [List.length_append, Lib.strCells_length, Array.length_toList, size_zeroCells, hz1]; omega
  ·simpa [List.append_assoc] using h2
 rcases h.buf_elim with ⟨rfl, rfl, h'⟩ | ⟨g, cap, sp, rfl, hc, hcm, h'⟩
 ·by_cases hm : s.size = 0
  ·have hn : Lib.strCells s = [] := List.eq_nil_of_length_eq_zero (by rw [Lib.strCells_length]; exact hm)
   refine ⟨.slice none 0 0, w, ?_, by rw [hn]; exact h'.buf_nil⟩
   have hf := Lib.run_firstCells_string (P := P) w 1 s
   rw [hm] at hf
   simp [Builtin.append_, run_underlying ht, run_underlying hu, sizeOf, typeInfo, hi, hsize, Builtin.lenOf, hm, hf]
  ·have hr := run_append_nil_string (P := P) w t u ty e i (.int .u8 0) ht hu hi hz s (by omega) (by simp at hbytes; omega) (by rw [hby]; simp at hbytes; omega)
   have hgr := grown 0 (by simp; omega) L h'
   simp only [List.length_nil, Nat.zero_add, List.nil_append, Array.empty_append] at hgr ⊢
   have e1 : (s.data.map fun b => Value.int .u8 b.toNat) = (Lib.strCells s).toArray := by
    apply Array.ext'
    simp [Lib.strCells]
   rw [e1] at hr
   exact ⟨_, _, hr, by simpa using hgr⟩
 ·by_cases hroom : xs.length + s.size ≤ cap
  ·have hr := Lib.run_append_room_string (P := P) w t u ty e i ht hu hi hsize g xs.length cap _ h'.blk_heap s hroom (by simp; omega)
   have hb := setRow_heap w g _ (((xs ++ sp).toArray).toList.take xs.length ++ Lib.strCells s ++ ((xs ++ sp).toArray).toList.drop (xs.length + s.size)).toArray e _ h'.blk_heap
   have h3 := h'.blk_turn grownBy_setRow hb
   refine ⟨_, _, hr, .buf_intro (g := g) (cap := cap) (sp := sp.drop s.size) (by rw [List.length_append, Lib.strCells_length]) ?_ hcm ?_⟩
   ·simp only [List.length_append, Lib.strCells_length, List.length_drop]; omega
   ·have e2 : ((xs ++ sp).toArray).toList.take xs.length ++ Lib.strCells s ++ ((xs ++ sp).toArray).toList.drop (xs.length + s.size) = xs ++ Lib.strCells s ++ sp.drop s.size := by
     simp [List.drop_append]
    rw [e2] at h3 ⊢
    exact h3
  ·have holds : ∀ j u, xs[j]? = some u → w.cell? ((⟨g, 0, none⟩ : Addr).add j) = some u := by
    intro j u hj
    have hadd : (⟨g, 0, none⟩ : Addr).add j = ⟨g, j, none⟩ := by unfold Addr.add; split <;> simp_all
    rw [hadd]
    exact h'.blk_cell j (by rw [List.getElem?_append_left (List.getElem?_eq_some_iff.1 hj).1]; exact hj)
   have hr := Lib.run_append_grow_string (P := P) w t u ty e i (.int .u8 0) ht hu hi hz ⟨g, 0, none⟩ xs.length cap xs (by rw [hsize]; simp) holds s (by omega) (by omega) (by rw [hby]; exact growslice_fits (by omega) (by omega))
   exact ⟨_, _, hr, grown cap (by omega) L h'.tail⟩
end Go.Sep
/- strings.Builder, walked: copyCheck, WriteString. -/
namespace Go.Proofs.YtdlkjppppdminaaGreatDoor
open Go Go.RowKit Go.Sep
set_option maxRecDepth 100000 in
set_option maxHeartbeats 1000000 in
theorem copyCheck_used (b : Nat) (w : World) (h0 : w.cell? ⟨b, 0, none⟩ = some (.pointer (some ⟨b, 0, none⟩))) :
  Calls Tryz.prog 17 #[.pointer (some ⟨b, 0, none⟩)] w fun e w' => e = .returned (.tuple #[]) ∧ w' = w := by
 obtain ⟨j, hj, _⟩ := Option.map_eq_some_iff.1 (show (Tryz.prog.info? 36).map (·.size) = some 2 by kernel_rfl)
 have hq : ∀ w, (binOp .neq 33 (.pointer (some ⟨b, 0, none⟩)) (.pointer (some ⟨b, 0, none⟩))).run Tryz.prog w = .ok (.bool false) w := fun w => Lib.run_neq_ptr_same w _ Tryz.underlying33 hj
 go_enter Tryz.func17, Tryz.ntmps17
 go_wp2
 go_end0
 exact ⟨rfl, rfl⟩
set_option maxRecDepth 100000 in
set_option maxHeartbeats 1000000 in
theorem copyCheck_fresh (b : Nat) (w : World) (h0 : w.cell? ⟨b, 0, none⟩ = some (.pointer none)) (hsh : w.shape? b = some (36, 2)) (hfz : w.frozen? ⟨b, 0, none⟩ = false) :
  Calls Tryz.prog 17 #[.pointer (some ⟨b, 0, none⟩)] w fun e w' => e = .returned (.tuple #[]) ∧ w' = w.setCell ⟨b, 0, none⟩ (.pointer (some ⟨b, 0, none⟩)) := by
 obtain ⟨j, hj, hjs⟩ := Option.map_eq_some_iff.1 (show (Tryz.prog.info? 36).map (·.size) = some 2 by kernel_rfl)
 go_enter Tryz.func17, Tryz.ntmps17
 go_wp2
 rw [Lib.run_to_unsafe w ⟨b, 0, none⟩ Tryz.underlying33 Tryz.underlying82 hj (by rw [hjs]; decide) hsh (Nat.zero_lt_succ 1)]
 simp only [Result.andThen]
 rw [Oper.upon_value]
 go_wp2
 rw [run_callFunc_extern Tryz.func33 (by kernel_rfl) (by kernel_rfl) (by kernel_rfl) (e := Extern.AbiNoEscape.same) (by kernel_rfl)]
 rw [Lib.run_noEscape]
 simp only [Result.andThen]
 rw [Oper.upon_value]
 go_wp2
 rw [Lib.run_from_unsafe w ⟨b, 0, none⟩ Tryz.underlying82 Tryz.underlying33 hj hsh (by kernel_rfl)]
 simp only [Result.andThen]
 rw [Oper.upon_value]
 go_wp2
 go_end0
 exact ⟨rfl, rfl⟩
def bldP (b : Nat) (l : List UInt8) : HProp := ex fun p => ex fun v => sep (pur (p = .pointer none ∨ p = .pointer (some ⟨b, 0, none⟩))) (sep (blk b 36 [p, v]) (bufP 5 v (Lib.byteCells l)))
theorem _root_.Go.Sep.S.bld_open {w0 w : World} {L : List HProp} {b : Nat} {l : List UInt8} (h : S w0 w (bldP b l :: L)) : ∃ p v, (p = .pointer none ∨ p = .pointer (some ⟨b, 0, none⟩)) ∧ S w0 w (blk b 36 [p, v] :: bufP 5 v (Lib.byteCells l) :: L) := by
 obtain ⟨p, h⟩ := h.ex_elim
 obtain ⟨v, h⟩ := h.ex_elim
 obtain ⟨hp, h⟩ := h.sep_elim.pur_elim
 exact ⟨p, v, hp, h.sep_elim⟩
theorem _root_.Go.Sep.S.bld_shut {w0 w : World} {L : List HProp} {b : Nat} {l : List UInt8} {p v : Value} (hp : p = .pointer none ∨ p = .pointer (some ⟨b, 0, none⟩)) (h : S w0 w (blk b 36 [p, v] :: bufP 5 v (Lib.byteCells l) :: L)) : S w0 w (bldP b l :: L) :=
 .ex_intro p (.ex_intro v (.sep_intro (.pur_intro hp (.sep_intro h))))
theorem wpList_append_str {P : Program} {w0 w : World} {L : List HProp} {v : Value} {xs : List Value} {ops : Array Oper} {rest : List Oper} {o : Oper} {a : Act} {Q : Exit → Act → World → Prop} (hg : o.guard = none) (s x : Operand) (t u : TypeId)
  (hop : o.op = .call { callee := .builtin .append, args := #[s, x], argTypes := #[t, u] })
  (e : TypeId) (i : TypeInfo) (ht : P.underlying t = some (.slice e)) (hu : P.underlying u = some .string) (hi : P.info? e = some i) (hz : i.zero = some (.int .u8 0)) (hsize : i.size = 1) (hby : i.bytes = 1)
  (hs : S w0 w (bufP e v xs :: L)) (hv : a.eval s = v) (y : ByteArray) (hx : a.eval x = .string y) (hbytes : xs.length + y.size ≤ 100000000000000)
  (h : ∀ v' w', S w0 w' (bufP e v' (xs ++ Lib.strCells y) :: L) → wpList P ops Q rest (a.put o.dst v') w') : wpList P ops Q (o :: rest) a w := by
 refine wpList_plain hg fun K hK => ?_
 obtain ⟨v', w', hr, h2⟩ := hs.append_str (P := P) t u o.type i ht hu hi hz hsize hby y hbytes
 unfold Oper.wp execOp
 simp only [hop, resolve, invoke, builtin, Sem.run_bind, Sem.run_pure, Result.andThen_ok, List.map_toArray, List.map_cons, List.map_nil, hv, hx, hr]
 exact hK _ _ (h v' w' h2)
theorem _root_.Go.Sep.S.buf_val {w0 w : World} {L : List HProp} {e : TypeId} {v : Value} {xs : List Value} (h : S w0 w (bufP e v xs :: L)) : ∃ a n c, v = .slice a n c := by
 rcases h.buf_elim with ⟨h, _⟩ | ⟨_, _, _, h, _⟩ <;> exact ⟨_, _, _, h⟩
theorem blk_shape {w0 w : World} {L : List HProp} {b : Nat} {e : TypeId} {vs : List Value} (h : S w0 w (blk b e vs :: L)) : w.shape? b = some (e, vs.length) := by
 have := h.blk_heap
 simp [World.shape?, this]
theorem copyCheck_any (w0 w : World) (b : Nat) (p v : Value) (L : List HProp) (hp : p = .pointer none ∨ p = .pointer (some ⟨b, 0, none⟩)) (hs : S w0 w (blk b 36 [p, v] :: L)) :
  Calls Tryz.prog 17 #[.pointer (some ⟨b, 0, none⟩)] w fun e w' => e = .returned (.tuple #[]) ∧ S w0 w' (blk b 36 [.pointer (some ⟨b, 0, none⟩), v] :: L) := by
 rcases hp with rfl | rfl
 ·refine (copyCheck_fresh b w (hs.blk_cell 0 rfl) (blk_shape hs) (hs.blk_free 0)).mono fun r w' ⟨h1, h2⟩ => ⟨h1, ?_⟩
  rw [h2]
  exact hs.blk_set 0 (by simp) _
 ·exact (copyCheck_used b w (hs.blk_cell 0 rfl)).mono fun r w' ⟨h1, h2⟩ => ⟨h1, by rw [h2]; exact hs⟩
set_option maxRecDepth 100000 in
set_option maxHeartbeats 2000000 in
theorem writeString_any (w0 w : World) (b : Nat) (l s : List UInt8) (L : List HProp) (hlen : l.length + s.length ≤ 10000000000) (hs : S w0 w (bldP b l :: L)) :
  Calls Tryz.prog 8 #[.pointer (some ⟨b, 0, none⟩), .string ⟨s.toArray⟩] w fun e w' => e = .returned (.tuple #[.int .i64 s.length, .nilIface]) ∧ S w0 w' (bldP b (l ++ s) :: L) := by
 obtain ⟨p, v, hp, h⟩ := hs.bld_open
 have HCC := hid (copyCheck_any w0 w b p v _ hp h)
 obtain ⟨i, hi, hx⟩ := Option.map_eq_some_iff.1 (show (Tryz.prog.info? 5).map (fun i => (i.zero, i.size, i.bytes)) = some (some (.int .u8 0), 1, 1) by kernel_rfl)
 have hz : i.zero = some (.int .u8 0) := congrArg Prod.fst hx
 have hz1 : i.size = 1 := congrArg (fun p => p.2.1) hx
 have hz2 : i.bytes = 1 := congrArg (fun p => p.2.2) hx
 have hcl : (Lib.byteCells l).length = l.length := Lib.byteCells_length l
 have hys : (⟨s.toArray⟩ : ByteArray).size = s.length := by simp [ByteArray.size]
 have hce : Lib.byteCells l ++ Lib.strCells ⟨s.toArray⟩ = Lib.byteCells (l ++ s) := by simp [Lib.byteCells, Lib.strCells]
 clear hs h hp hx
 go_enter Tryz.func8, Tryz.ntmps8
 go_wp2_with (first
  | (go_at_call 17; with_reducible refine HCC.out.mono ?_; rintro r w1 ⟨rfl, hs1⟩; have c1 := hs1.blk_cell 1 rfl; have H1 := hid hs1.swap; clear hs1)
  | (at_builtin; refine wpList_append_str rfl (.tmp 12) (.tmp 13) 34 9 rfl 5 i Tryz.underlying34 Tryz.underlying9 hi hz hz1 hz2 H1.out rfl ⟨s.toArray⟩ rfl (by omega) ?_; intro v2 w2 hs2; obtain ⟨a2, n2, k2, rfl⟩ := hs2.buf_val; have f2 := hs2.swap.blk_free 1; have d2 := hs2.swap.blk_cell 1 rfl; have H2 := hid hs2.swap; clear hs2))
 go_ret2
 refine ⟨rfl, ?_⟩
 have h3 := H2.out.blk_set 1 (by simp) (.slice a2 n2 k2)
 rw [hce] at h3
 exact S.bld_shut (.inr rfl) h3
end Go.Proofs.YtdlkjppppdminaaGreatDoor
/- strings.Builder's String. -/
namespace Go.Proofs.YtdlkjppppdminaaGreatDoor
open Go Go.RowKit Go.Sep
theorem bld_is {w0 w : World} {L : List HProp} {b : Nat} {l : List UInt8} (h : S w0 w (bldP b l :: L)) : Lib.IsBuilder 36 5 w0.heap.size b (Lib.byteCells l) w := by
 obtain ⟨p, v, hp, h⟩ := h.bld_open
 have hat : Lib.BuilderAt 36 5 w0.heap.size b p (Lib.byteCells l) w := by
  refine ⟨h.blk_new, v, h.blk_heap, ?_⟩
  rcases h.swap.buf_elim with ⟨rfl, hx, _⟩ | ⟨g, cap, sp, rfl, hc, hm, h'⟩
  ·rw [hx]; exact ⟨⟨rfl, .inl ⟨rfl, rfl⟩⟩, by simp [Value.ownBlock]⟩
  ·refine ⟨⟨by simp, .inr ⟨g, cap, (Lib.byteCells l ++ sp).toArray, rfl, h'.blk_new, h'.blk_heap, by omega, hm, by simp; omega, by simp⟩⟩, ?_⟩
   simp only [Value.ownBlock, ne_eq, Option.some.injEq]
   rintro rfl
   have e1 := h.blk_heap
   rw [h'.blk_heap] at e1
   injection e1 with e1
   injection e1 with _ e2
   exact absurd e2 (by decide)
 rcases hp with rfl | rfl
 ·exact .inl hat
 ·exact .inr hat
theorem bldString_any (w0 w : World) (b : Nat) (l : List UInt8) (L : List HProp) (hs : S w0 w (bldP b l :: L)) :
  Calls Tryz.prog 10 #[.pointer (some ⟨b, 0, none⟩)] w fun r w' => r = .returned (.string ⟨l.toArray⟩) ∧ Below w0.heap.size w0 w' ∧ ∀ (D : Nat) o, w.heap[D]? = some (Obj.deferred o) → w'.heap[D]? = some (Obj.deferred o) := by
 have hb : ∀ (D : Nat) o, w.heap[D]? = some (Obj.deferred o) → some D ≠ some b := by
  intro D o h e
  obtain rfl := Option.some.inj e
  obtain ⟨p, v, _, h2⟩ := hs.bld_open
  rw [h2.blk_heap] at h
  simp at h
 exact (Any.Builder_String_any_k Shd.Tryz.lays169 Shd.Tryz.Builder_Extra_169 w0.heap.size b l w (Lib.IsBuilderF.of (bld_is hs)) hs.below.size).mono fun _ _ ⟨h1, _, h2, h3⟩ => ⟨h1, hs.below.trans h2, fun D o h => h3 D _ h (hb D o h) (by simp)⟩
end Go.Proofs.YtdlkjppppdminaaGreatDoor
/- The desk's Session, walked. -/
namespace Go.Proofs.YtdlkjppppdminaaGreatDoor
open Go Go.RowKit Go.Sep
attribute [local go_sem] Oper.semAt_some
noncomputable def sessStep (x : Bas × List UInt8) (s : List UInt8) : Bas × List UInt8 := ((lineP x.1 s).1, x.2 ++ ((lineP x.1 s).2.text ++ [10]))
noncomputable def sessP (ls : List (List UInt8)) : Bas × List UInt8 := ls.foldl sessStep (Bas.over Dsk.zero, [])
theorem sessP_snoc (ls : List (List UInt8)) (x : List UInt8) : sessP (ls ++ [x]) = sessStep (sessP ls) x := by simp [sessP]
structure SessOk (ls : List (List UInt8)) : Prop where
 ok : ∀ d x, d ++ [x] <+: ls → BasOk 80000000 (sessP d).1 ∧ (lineP (sessP d).1 x).2.fit ∧ (sessP d).2.length ≤ 1000000000 ∧ (lineP (sessP d).1 x).2.text.length ≤ 1000000000 ∧ x.length ≤ 90000
theorem splitSeq_made (s : ByteArray) (w : World) (n : Nat) :
  CallsIn Fence.wide n Tryz.prog 15 #[.string s, .string ⟨#[10]⟩, .int .i64 0] w fun e w' => e = .returned (.func (.func 29) #[] #[.pointer (some ⟨w.heap.size + 1, 0, none⟩), .pointer (some ⟨w.heap.size, 0, none⟩), .pointer (some ⟨w.heap.size + 1 + 1, 0, none⟩)]) ∧
   w' = ((w.alloc (.cells #[.string s] 9)).alloc (.cells #[.string ⟨#[10]⟩] 9)).alloc (.cells #[.int .i64 0] 3) := by
 refine callsIn_of_wp Tryz.func15 rfl trivial ?_ rfl
 simp only [Tryz.ntmps15, List.size_toArray, List.length_cons, List.length_nil, Nat.reduceAdd, Nat.reduceSub, Array.replicate_succ, Array.replicate_zero, List.push_toArray, List.append_toArray, List.nil_append, List.cons_append]
 gi_wp2
 go_ret
 exact ⟨rfl, rfl⟩
theorem splitSeq_any (s : ByteArray) (w : World) :
  CallsIn Fence.wide 2 Tryz.prog 6 #[.string s, .string ⟨#[10]⟩] w fun e w' => e = .returned (.func (.func 29) #[] #[.pointer (some ⟨w.heap.size + 1, 0, none⟩), .pointer (some ⟨w.heap.size, 0, none⟩), .pointer (some ⟨w.heap.size + 1 + 1, 0, none⟩)]) ∧
   w' = ((w.alloc (.cells #[.string s] 9)).alloc (.cells #[.string ⟨#[10]⟩] 9)).alloc (.cells #[.int .i64 0] 3) := by
 refine callsIn_of_wp Tryz.func6 rfl trivial ?_ rfl
 simp only [Tryz.ntmps6, List.size_toArray, List.length_cons, List.length_nil, Nat.reduceAdd, Nat.reduceSub, Array.replicate_succ, Array.replicate_zero, List.push_toArray, List.append_toArray, List.nil_append, List.cons_append]
 gi_wp2_with (refine ⟨trivial, ?_⟩; gi_at_call 15; refine (splitSeq_made _ _ _).mono ?_; rintro e w' ⟨rfl, rfl⟩)
 go_ret
 exact ⟨rfl, rfl⟩
set_option maxRecDepth 100000 in
set_option maxHeartbeats 4000000 in
theorem session_any (w0 w : World) (t : List UInt8) (hE : ErrT w0) (hL : LibAll w0) (hs0 : S w0 w []) (hlen : t.length ≤ 20000) (hok : SessOk (linesL (Lib.trimSuffix t [10]))) :
  Calls Tryz.prog 4 #[.string ⟨t.toArray⟩] w fun r w' => r = .returned (.string ⟨(sessP (linesL (Lib.trimSuffix t [10]))).2.toArray⟩) ∧ Below w0.heap.size w0 w' := by
 have hsz : (⟨t.toArray⟩ : ByteArray).size = t.length := by simp [ByteArray.size]
 have hgt : ¬ ((t.length : Int) > 20000) := by omega
 have hs1 := ((hs0.alloc Tryz.zeroCells28 28).alloc #[.pointer (some ⟨w.heap.size, 0, none⟩), .pointer none] 31).alloc #[.pointer (some ⟨w.heap.size + 1, 0, none⟩)] 24
 simp only [World.size_alloc] at hs1
 have hs2 := dsk_made (hs1.conv (M := blk w.heap.size 28 Tryz.zeroCells28.toList :: blk (w.heap.size + 1) 31 [.pointer (some ⟨w.heap.size, 0, none⟩), .pointer none] :: blk (w.heap.size + 1 + 1) 24 [.pointer (some ⟨w.heap.size + 1, 0, none⟩)] :: []) (by simp only [all]; ac_rfl))
 have hop := fun n => (callsIn_wide (n := n)).2 (open0_any w0 _ (w.heap.size + 1) w.heap.size Dsk.zero _ _ hE hL (by simp [Dsk.zero]) hs2.swap)
 have HOP := hid hop
 have htr := fun W n => (callsIn_wide (n := n)).2 (Shd.Tryz.strings_TrimSuffix ⟨t.toArray⟩ ⟨#[10]⟩ W (by omega))
 have HTR := hid htr
 have HLE := hid hlen; have HE := hid hE; have HLB := hid hL
 clear hs1 hs2 hop htr hs0
 refine (callsIn_wide (n := 3)).1 ?_
 refine callsIn_of_wp_marks Tryz.func4 rfl trivial ?_
 simp only [Tryz.ntmps4, List.size_toArray, List.length_cons, List.length_nil, Nat.reduceAdd, Nat.reduceSub, Array.replicate_succ, Array.replicate_zero, List.push_toArray, List.append_toArray, List.nil_append, List.cons_append]
 gi_wp2_with (first
  | (refine ⟨trivial, ?_⟩; gi_at_call 5; refine (HOP.out _).mono ?_; rintro e w2 ⟨rfl, hs3⟩; have H3 := hid (hs3.alloc #[.pointer none, .slice none 0 0] 36); clear hs3)
  | (refine ⟨trivial, ?_⟩; gi_at_call 7; refine (HTR.out _ _).mono ?_; rintro e w' ⟨rfl, rfl⟩)
  | (refine ⟨trivial, ?_⟩; gi_at_call 6; refine (splitSeq_any _ _).mono ?_; rintro e w' ⟨rfl, rfl⟩))
 have hs4 := (((S.bld_shut (l := []) (.inl rfl) (S.swap (S.buf_nil (H3.out)))).alloc #[.string ⟨(Lib.trimSuffix t [10]).toArray⟩] 9).alloc #[.string ⟨#[10]⟩] 9).alloc #[.int .i64 0] 3
 simp only [World.size_alloc] at hs4
 have HS4 := hid hs4
 clear hs4 H3
 generalize hbb : w2.heap.size = bb at HS4 ⊢
 generalize hLs : Lib.trimSuffix t [10] = s0 at HS4 hok ⊢
 have hl0 : s0.length ≤ 20000 := by
  have h1 : (Lib.trimSuffix t [10]).length ≤ t.length := by unfold Lib.trimSuffix; split <;> simp
  rw [hLs] at h1; omega
 refine wpIn_rangeFunc_S rfl (fun h => by cases h) rfl trivial (enters_of Tryz.func29 (by kernel_rfl) rfl) HS4.out ?_
 intro fn l D W2 hS2
 generalize hrec : Loop.mk LoopState.ready none fn _ _ _ _ D = rec at hS2
 have HR := hid hrec
 clear hrec HS4
 have HOK := hid hok
 refine (splitSeq_in 2 (by omega) l (bb + 1) (bb + 1 + 1) (bb + 1 + 1 + 1) s0 (by omega) (fun done => sep (ob l (.loop rec)) (sep (ob D (.deferred (some []))) (sep (deskP (w.heap.size + 1) w.heap.size (sessP done).1) (sep (bldP bb (sessP done).2) (blk (w.heap.size + 1 + 1) 24 [.pointer (some ⟨w.heap.size + 1, 0, none⟩)]))))) w0 [] ?yield W2 ?start).mono ?after
 case start =>
  exact hS2.conv (by simp only [all, sessP, List.foldl_nil]; ac_rfl)
 case yield =>
  intro done x W R hpre hS
  have hS1 : S w0 W (ob l (.loop rec) :: ob D (.deferred (some [])) :: deskP (w.heap.size + 1) w.heap.size (sessP done).1 :: bldP bb (sessP done).2 :: blk (w.heap.size + 1 + 1) 24 [.pointer (some ⟨w.heap.size + 1, 0, none⟩)] :: R) := hS.conv (by simp only [all]; ac_rfl)
  clear hS
  obtain ⟨k1, k2, k3, k4, k5⟩ := HOK.out.ok done x hpre
  have hR := HR.out
  subst hR
  refine yieldAt_S hS1 rfl trivial rfl ?_
  have HS := hid hS1
  clear hS1
  dsimp only
  gi_wp2
  refine ⟨_, HS.out, fun w₂ hS₂ => ?_⟩
  have c0 := (hS₂.of_mem (A := blk (w.heap.size + 1 + 1) 24 [.pointer (some ⟨w.heap.size + 1, 0, none⟩)]) (by simp)).blk_cell 0 rfl
  have hd := hS₂.perm (List.perm_middle (l₁ := [_, _]))
  have hln := (callsIn_wide (n := 0)).2 (dline_any w0 w₂ (w.heap.size + 1) w.heap.size (sessP done).1 x _ 80000000 HE.out HLB.out k5 k1 (by omega) k2 hd)
  have hst : sessP (done ++ [x]) = ((lineP (sessP done).1 x).1, (sessP done).2 ++ ((lineP (sessP done).1 x).2.text ++ [10])) := sessP_snoc done x
  generalize (lineP (sessP done).1 x).2.text = T at hln k4 hst
  generalize (lineP (sessP done).1 x).1 = B' at hln hst
  have hwr : ∀ W M, S w0 W (bldP bb (sessP done).2 :: M) → CallsIn Fence.wide 0 Tryz.prog 8 #[.pointer (some ⟨bb, 0, none⟩), .string ((⟨T.toArray⟩ : ByteArray) ++ ⟨#[10]⟩)] W fun e w' => e = .returned (.tuple #[.int .i64 (T ++ [10]).length, .nilIface]) ∧ S w0 w' (bldP bb ((sessP done).2 ++ (T ++ [10])) :: M) := fun W M h => by
   rw [show (⟨T.toArray⟩ : ByteArray) ++ ⟨#[10]⟩ = ⟨(T ++ [10]).toArray⟩ from glueL T [10]]
   exact (callsIn_wide (n := 0)).2 (writeString_any w0 W bb (sessP done).2 (T ++ [10]) M (by simp; omega) h)
  have hnf : ¬ ((⟨T.toArray⟩ : ByteArray).size + 1 > 9223372036854775807) := by
   have : (⟨T.toArray⟩ : ByteArray).size = T.length := by simp [ByteArray.size]
   rw [this]; omega
  have HLN := hid hln; have HWR := hid hwr; have HST := hid hst
  clear hln hwr hst hS₂ hd HS k1 k2 k3 k4 k5 hpre HOK
  gi_wp2_with (first
   | (refine ⟨trivial, ?_⟩; gi_at_call 9; refine (HLN.out.inRound l).mono ?_; rintro e w5 ⟨rfl, hs5⟩; have H5 := hid (hs5.perm (List.perm_middle (l₁ := [_, _, _]))); clear hs5)
   | (refine ⟨trivial, ?_⟩; gi_at_call 8; refine ((HWR.out _ _ H5.out).inRound l).mono ?_; rintro e w6 ⟨rfl, hs6⟩; have H6 := hid (hs6.perm (List.perm_middle (l₁ := [_, _]))); clear hs6))
  refine roundPost_normal H6.out (fun w' h => ⟨rfl, ?_⟩)
  rw [HST.out]
  exact h.conv (by simp only [List.append_eq, List.cons_append, List.nil_append, all]; ac_rfl)
 case after =>
  rintro e W ⟨hv, x, hS⟩
  have hS1 := hS.conv (M := ob l (.loop rec) :: ob D (.deferred (some [])) :: deskP (w.heap.size + 1) w.heap.size (sessP (linesL s0)).1 :: bldP bb (sessP (linesL s0)).2 :: blk (w.heap.size + 1 + 1) 24 [.pointer (some ⟨w.heap.size + 1, 0, none⟩)] :: blk (bb + 1) 9 [.string x] :: blk (bb + 1 + 1) 9 [.string ⟨#[10]⟩] :: blk (bb + 1 + 1 + 1) 3 [.int .i64 0] :: []) (by simp only [all]; ac_rfl)
  clear hS
  have hR := HR.out
  subst hR
  refine hv.imp fun v hv => ⟨hv, _, _, hS1, by simp, fun w4 hS4 => ?_⟩
  dsimp only
  have hD4 := (hS4.of_mem (A := ob D (.deferred (some []))) (by simp)).obj
  have hDn := (hS4.of_mem (A := ob D (.deferred (some []))) (by simp)).obj_new
  have hb4 := hS4.perm (List.perm_middle (l₁ := [_, _]))
  have hbs := (callsIn_wide (n := 2)).2 (bldString_any w0 w4 bb _ _ hb4)
  have HBS := hid hbs
  clear hS4 hb4 hbs hS1 HTR HOP
  gi_wp2_with (refine ⟨trivial, ?_⟩; gi_at_call 10; refine HBS.out.mono ?_; rintro e w5 ⟨rfl, hs5, hd5⟩)
  have hD5 := hd5 D _ hD4
  refine ⟨by simp, .inl ⟨D, _, rfl, run_takeDeferred hD5, ?_⟩⟩
  refine ⟨.string ⟨(sessP (linesL s0)).2.toArray⟩, ?_, by rw [hLs], ⟨hs5.os, hs5.tape, hs5.output, by simpa [World.putObj] using hs5.size, fun j hj => ?_⟩⟩
  ·simp [results, Tryz.f4, go_sem]
  ·rw [← hs5.block j hj]
   exact World.putObj_heap_other (by omega)
end Go.Proofs.YtdlkjppppdminaaGreatDoor
/- Session's lines, taken together; what Session answers of the first lines. No walk in sight. -/
namespace Go.Proofs.YtdlkjppppdminaaGreatDoor
open Go Go.RowKit Go.Sep
theorem snoc_induct' {α : Type} {P : List α → Prop} (h0 : P []) (h1 : ∀ l o, P l → P (l ++ [o])) (l : List α) : P l := by
 have : ∀ l : List α, P l.reverse := by
  intro l
  induction l with
  | nil => simpa using h0
  | cons o l ih => simpa using h1 _ o ih
 simpa using this l.reverse
theorem desk_start : DeskI 0 (Bas.over Dsk.zero) :=
 DeskI.over (D := Dsk.zero) (fun t ht => by
  have := (List.mem_replicate.1 (show t ∈ List.replicate 250 [] from ht)).2
  subst this; simp) (List.length_replicate ..)
theorem sess_well (ls : List (List UInt8)) : ls.length ≤ 2400 → DeskI ls.length (sessP ls).1 ∧ (sessP ls).2.length ≤ 400001 * ls.length := by
 induction ls using snoc_induct' with
 | h0 => intro _; exact ⟨desk_start, by simp [sessP]⟩
 | h1 l x ih =>
  intro hl
  rw [List.length_append, List.length_singleton] at hl ⊢
  obtain ⟨h1, h2⟩ := ih (by omega)
  have h3 := line_well (s := x) (by omega) h1
  rw [sessP_snoc]
  refine ⟨h3.1, ?_⟩
  unfold sessStep
  have h4 := h3.2.2
  simp only [List.length_append, List.length_singleton]
  omega
theorem sess_ok {ls : List (List UInt8)} (hl : ls.length ≤ 2400) (hx : ∀ x ∈ ls, x.length ≤ 90000) : SessOk ls := ⟨fun d x hp => by
 have hd : (d ++ [x]).length ≤ ls.length := hp.length_le
 rw [List.length_append, List.length_singleton] at hd
 obtain ⟨h1, h2⟩ := sess_well d (by omega)
 have h3 := line_well (s := x) (by omega) h1
 refine ⟨h1.bas (by omega), h3.2.1, by omega, ?_, hx x (hp.subset (by simp))⟩
 have := h3.2.2; omega⟩
theorem sess_append (a b : List (List UInt8)) : ∃ r, (sessP (a ++ b)).2 = (sessP a).2 ++ r := by
 induction b using snoc_induct' with
 | h0 => exact ⟨[], by simp⟩
 | h1 l x ih =>
  obtain ⟨r, hr⟩ := ih
  rw [← List.append_assoc, sessP_snoc]
  exact ⟨r ++ ((lineP (sessP (a ++ l)).1 x).2.text ++ [10]), by unfold sessStep; rw [hr]; simp⟩
end Go.Proofs.YtdlkjppppdminaaGreatDoor
/- Session of a text's first lines. No walk in sight. -/
namespace Go.Proofs.YtdlkjppppdminaaGreatDoor
open Go Go.RowKit Go.Sep
theorem trim_nl (a : List UInt8) : Lib.trimSuffix (a ++ [10]) [10] = a := by
 unfold Lib.trimSuffix Lib.hasSuffix
 simp
theorem trim_cases (s : List UInt8) : (∃ r, s = r ++ [10] ∧ Lib.trimSuffix s [10] = r) ∨ Lib.trimSuffix s [10] = s := by
 by_cases h : ∃ r, s = r ++ [10]
 ·obtain ⟨r, rfl⟩ := h
  exact .inl ⟨r, rfl, trim_nl r⟩
 ·right
  unfold Lib.trimSuffix
  rw [if_neg]
  intro hs
  unfold Lib.hasSuffix at hs
  obtain ⟨r, hr⟩ := List.isSuffixOf_iff_suffix.1 hs
  exact h ⟨r, hr.symm⟩
theorem trim_more (a b : List UInt8) : ∃ r, linesL (Lib.trimSuffix (a ++ 10 :: b) [10]) = linesL a ++ r := by
 rcases trim_cases (a ++ 10 :: b) with ⟨r, h1, h2⟩ | h2
 ·rw [h2]
  rcases List.eq_nil_or_concat b with rfl | ⟨b', x, rfl⟩
  ·have : r = a := by
    have h3 : a ++ [10] = r ++ [10] := h1
    exact (List.append_cancel_right h3).symm
   rw [this]; exact ⟨[], by simp⟩
  ·have h3 : (a ++ 10 :: b') ++ [x] = r ++ [10] := by rw [← h1]; simp
   have h4 := (List.append_inj' h3 rfl).1
   rw [← h4, linesL_append]
   exact ⟨_, rfl⟩
 ·rw [h2, linesL_append]
  exact ⟨_, rfl⟩
noncomputable def sessT (t : List UInt8) : List UInt8 := (sessP (linesL (Lib.trimSuffix t [10]))).2
theorem sess_text {t : List UInt8} (h : t.length ≤ 2100) : SessOk (linesL (Lib.trimSuffix t [10])) := by
 have h1 : (Lib.trimSuffix t [10]).length ≤ t.length := by unfold Lib.trimSuffix; split <;> simp
 obtain ⟨h2, h3⟩ := linesL_len (Lib.trimSuffix t [10])
 exact sess_ok (by omega) (fun x hx => by have := h3 x hx; omega)
theorem desk_pieces (a b : List UInt8) : ∃ r, sessT (a ++ 10 :: b) = sessT (a ++ [10]) ++ r := by
 unfold sessT
 obtain ⟨r, hr⟩ := trim_more a b
 rw [hr, trim_nl]
 exact sess_append _ _
end Go.Proofs.YtdlkjppppdminaaGreatDoor
/- The constant session. No walk in sight. -/
namespace Go.Proofs.YtdlkjppppdminaaGreatDoor
open Go Go.RowKit Go.Sep
theorem cs_lines : linesL (Lib.trimSuffix [98, 101, 103, 105, 110, 32, 50, 10, 119, 114, 105, 116, 101, 32, 49, 32, 51, 32, 55, 10, 114, 101, 97, 100, 32, 49, 32, 51, 10, 120, 10] [10]) = [[98, 101, 103, 105, 110, 32, 50], [119, 114, 105, 116, 101, 32, 49, 32, 51, 32, 55], [114, 101, 97, 100, 32, 49, 32, 51], [120]] := by kernel_rfl
theorem cs_words0 : wordsL [98, 101, 103, 105, 110, 32, 50] = [[98, 101, 103, 105, 110], [50]] := by kernel_rfl
theorem cs_words1 : wordsL [119, 114, 105, 116, 101, 32, 49, 32, 51, 32, 55] = [[119, 114, 105, 116, 101], [49], [51], [55]] := by kernel_rfl
theorem cs_words2 : wordsL [114, 101, 97, 100, 32, 49, 32, 51] = [[114, 101, 97, 100], [49], [51]] := by kernel_rfl
theorem cs_words3 : wordsL [120] = [[120]] := by kernel_rfl
theorem cs_nums0 : numsP [[50]] 1 = some [2] := by kernel_rfl
theorem cs_nums1 : numsP [[49], [51], [55]] 3 = some [1, 3, 7] := by kernel_rfl
theorem cs_nums2 : numsP [[49], [51]] 2 = some [1, 3] := by kernel_rfl
theorem cs_eng : (Bas.over Dsk.zero).eng = Eng.zero := by kernel_rfl
theorem cs_write : ((Eng.zero.begin_ 2).1.write 1 3 7).2 = (true, 0) ∧ ((((Eng.zero.begin_ 2).1.write 1 3 7).1).read 1 3).2 = (7, 0) := by
 unfold Eng.write
 generalize comesRound _ _ _ = b
 cases b
 ·exact ⟨by kernel_rfl, by kernel_rfl⟩
 ·exact ⟨by kernel_rfl, by kernel_rfl⟩
theorem cs_begin : (Eng.zero.begin_ 2).2 = (1, 0) := by kernel_rfl
theorem cs_c0 : cmdP [98, 101, 103, 105, 110] = some cBegin := by unfold cmdP; simp
theorem cs_c1 : cmdP [119, 114, 105, 116, 101] = some cWrite := by unfold cmdP; simp
theorem cs_c2 : cmdP [114, 101, 97, 100] = some cRead := by unfold cmdP; simp
theorem cs_c3 : cmdP [120] = none := by unfold cmdP; simp
theorem cs_num1 : num 1 = [49] := by kernel_rfl
theorem cs_num7 : num 7 = [55] := by kernel_rfl
theorem cs_num3 : num 3 = [51] := by kernel_rfl
theorem cs_l0 : lineP (Bas.over Dsk.zero) [98, 101, 103, 105, 110, 32, 50] = ({ Bas.over Dsk.zero with eng := (Eng.zero.begin_ 2).1 }, .ok [49]) := by
 unfold lineP
 rw [cs_words0]
 simp only [cs_c0]
 unfold cBegin
 rw [cs_nums0]
 simp only [cs_eng, cs_begin, ansE, cs_num1, if_true]
theorem cs_l1 (B : Bas) (h : B.eng = (Eng.zero.begin_ 2).1) : lineP B [119, 114, 105, 116, 101, 32, 49, 32, 51, 32, 55] = ({ B with eng := ((Eng.zero.begin_ 2).1.write 1 3 7).1 }, .ok [119, 114, 105, 116, 101]) := by
 unfold lineP
 rw [cs_words1]
 simp only [cs_c1]
 unfold cWrite
 rw [cs_nums1]
 simp only [h, cs_write.1, ansE, if_true]
theorem cs_l2 (B : Bas) (h : B.eng = ((Eng.zero.begin_ 2).1.write 1 3 7).1) : (lineP B [114, 101, 97, 100, 32, 49, 32, 51]).2 = .ok [105, 115, 32, 55] := by
 unfold lineP
 rw [cs_words2]
 simp only [cs_c2]
 unfold cRead
 rw [cs_nums2]
 simp only [h, cs_write.2, ansE, cs_num7, if_true]
 rfl
theorem cs_l3 (B : Bas) : (lineP B [120]).2 = .no 3 := by
 unfold lineP
 rw [cs_words3]
 simp only [cs_c3]
theorem cs_all : sessT [98, 101, 103, 105, 110, 32, 50, 10, 119, 114, 105, 116, 101, 32, 49, 32, 51, 32, 55, 10, 114, 101, 97, 100, 32, 49, 32, 51, 10, 120, 10] = [49, 10, 119, 114, 105, 116, 101, 10, 105, 115, 32, 55, 10, 101, 114, 114, 111, 114, 32, 51, 10] := by
 unfold sessT
 rw [cs_lines]
 unfold sessP
 simp only [List.foldl_cons, List.foldl_nil, sessStep]
 rw [cs_l0]
 simp only
 rw [cs_l1 _ rfl]
 simp only
 rw [cs_l2 _ rfl, cs_l3]
 simp only [Ans.text, cs_num3]
 rfl
end Go.Proofs.YtdlkjppppdminaaGreatDoor
/- The law DeskPieces, walked. -/
namespace Go.Proofs.YtdlkjppppdminaaGreatDoor
open Go Go.RowKit Go.Sep
theorem sess_c (w0 w : World) (t : List UInt8) (hE : ErrT w0) (hL : LibAll w0) (hs : S w0 w []) (h : t.length ≤ 2100) :
  Calls Tryz.prog 4 #[.string ⟨t.toArray⟩] w fun r w' => r = .returned (.string ⟨(sessT t).toArray⟩) ∧ S w0 w' [] :=
 (session_any w0 w t hE hL hs (by omega) (sess_text h)).mono fun _ _ ⟨h1, h2⟩ => ⟨h1, ⟨h2, Hp.emp, rfl, by intro b i t h; simp [Hp.emp] at h⟩⟩
set_option maxRecDepth 100000 in
set_option maxHeartbeats 4000000 in
theorem pieces_any (w : World) (a b : List UInt8) (hE : ErrT w) (hL : LibAll w) (hlen : a.length + b.length ≤ 9223372036854775807) :
  Calls Tryz.prog 3 #[.string ⟨a.toArray⟩, .string ⟨b.toArray⟩] w fun r w' => r = .returned (.bool true) ∧ Below w.heap.size w w' := by
 have ea : (⟨a.toArray⟩ : ByteArray).size = a.length := by simp [ByteArray.size]
 have eb : (⟨b.toArray⟩ : ByteArray).size = b.length := by simp [ByteArray.size]
 by_cases hbig : a.length + b.length > 2000
 ·have hb2 : ((a.length : Int) + (b.length : Int)) > 2000 := by omega
  go_enter Tryz.func3, Tryz.ntmps3
  go_wp2_with fail
  go_ret
  exact ⟨rfl, Below.refl _ _⟩
 ·have hb2 : ¬ ((a.length : Int) + (b.length : Int)) > 2000 := by omega
  have hla : a.length ≤ 2000 := by omega
  have hlb : b.length ≤ 2000 := by omega
  have c1 := sess_c w w [98, 101, 103, 105, 110, 32, 50, 10, 119, 114, 105, 116, 101, 32, 49, 32, 51, 32, 55, 10, 114, 101, 97, 100, 32, 49, 32, 51, 10, 120, 10] hE hL (S.start w) (by decide)
  rw [cs_all] at c1
  have c2 : ∀ W, S w W [] → Calls Tryz.prog 4 #[.string ((⟨a.toArray⟩ : ByteArray) ++ ⟨#[10]⟩)] W fun r w' => r = .returned (.string ⟨(sessT (a ++ [10])).toArray⟩) ∧ S w w' [] := fun W h => by
   rw [show (⟨a.toArray⟩ : ByteArray) ++ ⟨#[10]⟩ = ⟨(a ++ [10]).toArray⟩ from glueL a [10]]
   exact sess_c w W (a ++ [10]) hE hL h (by rw [List.length_append]; simp only [List.length_cons, List.length_nil]; omega)
  have c3 : ∀ W, S w W [] → Calls Tryz.prog 4 #[.string ((⟨a.toArray⟩ : ByteArray) ++ ⟨#[10]⟩ ++ ⟨b.toArray⟩)] W fun r w' => r = .returned (.string ⟨(sessT (a ++ 10 :: b)).toArray⟩) ∧ S w w' [] := fun W h => by
   rw [show (⟨a.toArray⟩ : ByteArray) ++ ⟨#[10]⟩ = ⟨(a ++ [10]).toArray⟩ from glueL a [10], glueL, show (a ++ [10]) ++ b = a ++ 10 :: b by simp]
   exact sess_c w W (a ++ 10 :: b) hE hL h (by rw [List.length_append, List.length_cons]; omega)
  obtain ⟨r, hr⟩ := desk_pieces a b
  rw [hr] at c3
  generalize sessT (a ++ [10]) = X at c2 c3
  have hcut : (⟨(X ++ r).toArray⟩ : ByteArray).extract 0 X.length = ⟨X.toArray⟩ := by
   rw [ByteArray.extract_mk]; simp
  have n1 : ¬ ((⟨a.toArray⟩ : ByteArray).size + 1 > 9223372036854775807) := by omega
  have n2 : ¬ ((⟨a.toArray⟩ : ByteArray).size + 1 + (⟨b.toArray⟩ : ByteArray).size > 9223372036854775807) := by omega
  have n3 : ((X.length : Int) ≤ (X.length : Int) + (r.length : Int)) := by omega
  have hX : (⟨X.toArray⟩ : ByteArray).size = X.length := by simp [ByteArray.size]
  have hY : (⟨(X ++ r).toArray⟩ : ByteArray).size = X.length + r.length := by simp [ByteArray.size]
  have C1 := hid c1; have C2 := hid c2; have C3 := hid c3
  clear c1 c2 c3 hr hE hL hbig hla hlb
  go_enter Tryz.func3, Tryz.ntmps3
  go_wp2_with (go_at_call 4; with_reducible refine C1.out.mono ?_; rintro r1 w1 ⟨rfl, hs1⟩; have H1 := hid hs1; clear hs1 C1)
  with_reducible refine (C2.out _ H1.out).mono ?_
  rintro r2 w2 ⟨rfl, hs2⟩
  have H2 := hid hs2
  clear hs2 H1
  go_wp2_with fail
  with_reducible refine (C3.out _ H2.out).mono ?_
  rintro r3 w3 ⟨rfl, hs3⟩
  have hB := hs3.below
  clear hs3 H2
  go_wp2_with fail
  go_ret
  exact ⟨rfl, hB⟩
end Go.Proofs.YtdlkjppppdminaaGreatDoor
namespace Go.Proofs.YtdlkjppppdminaaGreatDoor.deskPieces
open Go Go.ChangeShapes Go.WideShapes Go.ChangeAt Go.RowKit Go.Sep Go.Deep
theorem err_cell {P : Program} {W : World} {name nm : String} {d : DataW Unit} {rest : List (String × DataW Unit)} {g : Nat} {t : TypeId} {ms : Array (String × TypeId)}
  (hg : P.globalNamed name = some g) (hty : (P.globals[g]?).map (·.type) = some t) (ht : P.underlying t = some (.interface ms)) (h : laidMet P ((name, .iface nm d) :: rest) W) : ∃ te pe, W.cell? ⟨g, 0, none⟩ = some (.iface te pe) := by
 obtain ⟨ps, ⟨g', t', cs, fuel, p, q, hg', ht', hvar, hd, _, _⟩, _⟩ := h
 obtain rfl := Option.some.inj (hg.symm.trans hg')
 obtain rfl := Option.some.inj (hty.symm.trans ht')
 have hc := World.var?_cell hg hvar 0
 obtain ⟨l⟩ := cs
 cases fuel with
 | zero => simp [DataW.trod] at hd
 | succ n =>
  unfold DataW.trod at hd
  rw [ht] at hd
  rcases l with _ | ⟨a, _ | ⟨b, l⟩⟩
  ·simp at hd
  ·cases a <;> simp at hd
   exact ⟨_, _, by simpa using hc⟩
  ·simp at hd
theorem laid_tail {P : Program} {x : String × DataW Unit} {l : List (String × DataW Unit)} {W : World} (h : laidMet P (x :: l) W) : laidMet P l W := by
 obtain ⟨ps, ⟨g, t, cs, fuel, p, q, _, _, _, _, hq, rfl⟩, hn, hc⟩ := h
 exact ⟨q, hq, (List.nodup_append.1 hn).2.1, fun b off hb => hc b off (List.mem_append.2 (.inr hb))⟩
theorem laid_at {P : Program} {W : World} : ∀ (l : List (String × DataW Unit)), laidMet P l W → ∀ x ∈ l, ∃ r, laidMet P (x :: r) W
 | y :: l, h, x, hx => by
  rw [List.mem_cons] at hx
  rcases hx with rfl | hx
  ·exact ⟨l, h⟩
  ·exact laid_at l (laid_tail h) x hx
theorem parts {W : World} (h : laidMetH Tryz.prog Rows.deskPiecesRow.laid W) : laidMet Tryz.prog (Rows.deskPiecesRow.laid.filter fun x => x.2.handleName?.isNone) W ∧ laidMetH Tryz.prog [("errors.errorType", Rows.laid_errors_errorType)] W := by
 have h' : laidMet Tryz.prog (Rows.deskPiecesRow.laid.filter fun x => x.2.handleName?.isNone) W ∧ handlesMet Tryz.prog [("errors.errorType", Rows.laid_errors_errorType)] W := h
 exact ⟨h'.1, laidMet_nil _ _, h'.2⟩
set_option linter.unusedSimpArgs false in
theorem pow10 {W : World} (h : laidMetH Tryz.prog Rows.deskPiecesRow.laid W) : Pow10 W := by
 obtain ⟨r, hr⟩ := laid_at _ (parts h).1 ("internal/strconv.uint64pow10", Rows.laid_internal_strconv_uint64pow10) (by
  refine List.mem_filter.2 ⟨?_, rfl⟩
  unfold Rows.deskPiecesRow
  simp only [List.mem_cons, Prod.mk.injEq, true_and, true_or, or_true])
 exact Lib.tabIs_of_head (g := 6) (t := 210) (e := 140) (n := 20) (by kernel_rfl) (by kernel_rfl) (by kernel_rfl) (by kernel_rfl) (by kernel_rfl) (by kernel_rfl) hr
theorem libok {W : World} (h : laidMetH Tryz.prog Rows.deskPiecesRow.laid W) (hs : W.ShapedOpen Tryz.prog) : LibOk W :=
 ⟨pow10 h, Go.Proofs.cell_of_shapedOpen_int (zero := #[.int .i64 0]) (t := 3) hs (of_decide_eq_true (by kernel_rfl)) (by kernel_rfl) rfl (by kernel_rfl) (by kernel_rfl) Tryz.underlying3⟩
theorem errvar {W : World} (h : laidMetH Tryz.prog Rows.deskPiecesRow.laid W) : ErrVar W := by
 obtain ⟨r1, h1⟩ := laid_at _ (parts h).1 ("strconv.ErrSyntax", Rows.laid_strconv_ErrSyntax) (by
  refine List.mem_filter.2 ⟨?_, rfl⟩
  unfold Rows.deskPiecesRow
  simp only [List.mem_cons, Prod.mk.injEq, true_or, or_true])
 obtain ⟨r2, h2⟩ := laid_at _ (parts h).1 ("strconv.ErrRange", Rows.laid_strconv_ErrRange) (by
  refine List.mem_filter.2 ⟨?_, rfl⟩
  unfold Rows.deskPiecesRow
  simp only [List.mem_cons, Prod.mk.injEq, true_or, or_true])
 obtain ⟨u, v, hu⟩ := err_cell (g := 4) (t := 42) (by kernel_rfl) (by kernel_rfl) Tryz.underlying42 h1
 obtain ⟨u', v', hu'⟩ := err_cell (g := 5) (t := 42) (by kernel_rfl) (by kernel_rfl) Tryz.underlying42 h2
 exact ⟨_, _, hu, .inr ⟨_, _, rfl⟩, hu', .inr ⟨_, _, rfl⟩⟩
theorem liball {W : World} (h : laidMetH Tryz.prog Rows.deskPiecesRow.laid W) (hs : W.ShapedOpen Tryz.prog) : LibAll W := ⟨libok h hs, errvar h⟩
set_option maxRecDepth 100000 in
theorem contract (H : Type) (enc : TypeId × Value → H) (W : World) (base : Nat) (args : Array Value) (ds gs : List (DataW H)) (before : List MemPlace)
  (hval : ∀ (j : Nat) t v, Tryz.f3.params[j]? = some t → args[j]? = some v → Value.okWide Tryz.prog W .any base t v)
  (hW : DataW.Whole enc Tryz.prog Tryz.f3.params.toList Rows.deskPiecesSpec.vars false W args.toList ds gs before) (hL : laidMetH Tryz.prog Rows.deskPiecesRow.laid W) (hSh : W.ShapedOpen Tryz.prog)
  (hz : (DataW.weightsEach Tryz.prog (Tryz.f3.params.toList ++ Rows.deskPiecesSpec.plain.varTypes Tryz.prog) (ds ++ gs)).all (· ≤ reachBytes) = true) :
  Calls Tryz.prog 3 args W fun e W' => ∃ v, e = .returned v ∧ Rows.deskPiecesSpec.post enc Tryz.prog Tryz.f3 false true false false W args v W' := by
 have hW' := hW
 obtain ⟨p, q, hA0, hV, rfl, hfz, hnd⟩ := hW
 have hA : DataW.TrodAll enc Tryz.prog W 0 (fun _ => true) true Tryz.f3.params.toList args.toList ds p := hA0
 rw [Tryz.params3] at hA hval
 obtain ⟨v0, vs0, d0, ds0, p0, q0, hargs, rfl, rfl, h0, r0⟩ := trodAll_cons hA
 obtain ⟨v1, vs1, d1, ds1, p1, q1, rfl, rfl, rfl, h1, r1⟩ := trodAll_cons r0
 obtain ⟨rfl, rfl, rfl⟩ := trodAll_nil r1
 obtain rfl : args = #[v0, v1] := Array.ext' hargs
 obtain ⟨s0, rfl⟩ := okWide_string Tryz.underlying9 (hval 0 9 _ rfl rfl)
 obtain ⟨fuel0, hf0⟩ := h0
 obtain ⟨s1, rfl⟩ := okWide_string Tryz.underlying9 (hval 1 9 _ rfl rfl)
 obtain ⟨fuel1, hf1⟩ := h1
 clear hA0 hA
 have hE := handle_of_laid (parts hL).2
 have hLib := liball hL hSh
 simp only [List.append_nil] at hW'
 obtain ⟨b0, hc0, hd0, _⟩ := DataW.trod_string Tryz.underlying9 hf0
 obtain ⟨b1, hc1, hd1, _⟩ := DataW.trod_string Tryz.underlying9 hf1
 obtain rfl : s0 = b0 := by simpa [Value.cells] using hc0
 obtain rfl : s1 = b1 := by simpa [Value.cells] using hc1
 obtain ⟨rfl, rfl⟩ := Prod.mk.inj hd0
 obtain ⟨rfl, rfl⟩ := Prod.mk.inj hd1
 have z0 := sized_string hz (j := 0) (t := 9) (bytes := s0.data.toList) (by rw [Tryz.params3]; rfl) rfl
 have z1 := sized_string hz (j := 1) (t := 9) (bytes := s1.data.toList) (by rw [Tryz.params3]; rfl) rfl
 have hr : reachBytes < 2 ^ 47 := reachBytes_lt
 have hlen : s0.data.toList.length + s1.data.toList.length ≤ 9223372036854775807 := by omega
 refine (pieces_any W s0.data.toList s1.data.toList hE hLib hlen).mono fun e W' ⟨he, hb⟩ => ⟨_, he, ?_⟩
 exact post_law Tryz.laidOut (by kernel_rfl) (by kernel_rfl) Tryz.underlying4 rfl rfl hW' hb
noncomputable def baseWorld (os : Os) : World :=
 { World.holding Tryz.prog os ⟨#[], #[], []⟩ with heap := (World.holding Tryz.prog os ⟨#[], #[], []⟩).heap.modify 0 fun
   | .cells _ t frozen => .cells #[.iface 193 (.agg #[.pointer (some ⟨9, 42, none⟩)])] t frozen
   | o => o }
def LL : List (String × DataW Unit) := Rows.deskPiecesRow.laid.filter fun x => x.2.handleName?.isNone
noncomputable def laidWorld (os : Os) : World := (baseWorld os).layVars Tryz.prog LL
theorem laid_met (os : Os) : laidMetH Tryz.prog Rows.deskPiecesRow.laid ((laidWorld os).forCall (fun _ _ => 0) ⟨#[], #[.string ⟨#[]⟩, .string ⟨#[]⟩], []⟩).memory := by
 refine laidMetH_of_parts ?_ (by kernel_rfl)
 have e1 : (LL.filter fun x => (LL.map (·.1)).contains x.1) = LL := List.filter_eq_self.2 fun x hx => List.contains_iff_mem.2 (List.mem_map.2 ⟨x, hx, rfl⟩)
 have e2 : (LL.filter fun x => !(LL.map (·.1)).contains x.1) = [] := List.filter_eq_nil_iff.2 fun x hx => by rw [List.contains_iff_mem.2 (List.mem_map.2 ⟨x, hx, rfl⟩)]; simp
 have h : laidMet Tryz.prog LL (laidWorld os) := laidMet_layVars (w0 := baseWorld os) (LL.map (·.1)) [] (by rw [e1]; rfl) (by rw [e1]; kernel_rfl) (by rw [e1]; kernel_rfl) (by rw [e2]; exact LaidIn.none)
 exact h.of_heap (by simp [World.memory, World.forCall, Input.heap])
theorem reads (os : Os) {H : Type} (enc : TypeId × Value → H) : ∃ places, DataW.whole enc Tryz.prog ((laidWorld os).forCall (fun _ _ => 0) ⟨#[], #[.string ⟨#[]⟩, .string ⟨#[]⟩], []⟩).memory Tryz.f3.params.toList Rows.deskPiecesSpec.vars false #[Value.string ⟨#[]⟩, .string ⟨#[]⟩].toList 8 = some ([.lit (.string []), .lit (.string [])], [], places) :=
 ⟨[], by kernel_rfl⟩
set_option maxRecDepth 100000 in
theorem lifted (os : Os) (started : os.Started) (H : Type) (enc : TypeId × Value → H) (F : Stop.Interp) :
  ReturnsInHanded {} Tryz.checked os 3 .any ((OpenSpec.ofChange Rows.deskPiecesSpec).preRow enc Tryz.prog Tryz.f3 Rows.deskPiecesRow.domain false Rows.deskPiecesRow.laid) (((OpenSpec.ofChange Rows.deskPiecesSpec).at F).post enc Tryz.prog Tryz.f3 false true false false) := by
 obtain ⟨places, hx⟩ := reads os enc
 refine returnsInHanded_of_row (C := Tryz.checked) (s := OpenSpec.ofChange Rows.deskPiecesSpec) Tryz.own started (by kernel_rfl) Tryz.func3
  (by
   obtain ⟨w, tape, i, h1, h2, h3, h4, h5, h6, _⟩ := OpenSpec.witness_stopped_atRef (enc := enc) (C := Tryz.checked) (f := 3) (fn := Tryz.f3) (s := OpenSpec.ofChange Rows.deskPiecesSpec) (conds := Rows.deskPiecesRow.domain) (apart := false) (laid := Rows.deskPiecesRow.laid) false (laidWorld os) #[.string ⟨#[]⟩, .string ⟨#[]⟩] (World.layVars_os _ _ _) (by kernel_rfl) (by kernel_rfl) (by kernel_rfl)
    (OpenSpec.preRow_of_cond 8 hx (by kernel_rfl) (fun k hk => by cases hk) (by kernel_rfl) (laid_met os)) (fun _ _ _ => 0)
   exact ⟨w, tape, i, h1, h2, h3, h4, h5, h6⟩) ?_
 intro W base args ds gs before hval hW _ _ hz hL hSh _
 exact contract H enc W base args ds gs before hval hW hL hSh hz
theorem said : Rows.DeskPiecesSaid :=
 OpenClaim.holds_of_cond 3 Tryz.f3 rfl rfl rfl rfl rfl rfl rfl ⟨rfl, rfl, rfl, rfl, rfl⟩ rfl rfl rfl rfl rfl (by kernel_rfl) Tryz.func3 (by kernel_rfl)
  (of_decide_eq_true (by kernel_rfl)) (by unfold Func.isWrapper; first | (rw [if_pos (by decide +kernel)]; kernel_rfl) | (rw [if_neg (by decide +kernel)]; exact ⟨rfl, rfl⟩))
  (fun os started H enc _ F => by rw [OpenClaim.pre_eq_preRow]; exact lifted os started H enc F)
theorem plain (f : FuncId) (fn : Func) (hf : Tryz.pinned.checked.prog.funcNamed "interleaf/interleafkeep.DeskPieces" = some f) (hfn : Tryz.pinned.checked.prog.funcs[f]? = some fn) :
  true = Tryz.pinned.checked.prog.looks [] ∧ ∀ (j : Nat) t, fn.params[j]? = some t → Tryz.pinned.checked.prog.wantsStandIn t = false := by
 obtain rfl : f = 3 := Option.some.inj ((show Tryz.prog.funcNamed "interleaf/interleafkeep.DeskPieces" = some 3 by kernel_rfl).symm.trans hf) |>.symm
 obtain rfl : fn = Tryz.f3 := (Option.some.inj (Tryz.func3.symm.trans hfn)).symm
 refine ⟨by kernel_rfl, fun j t ht => ?_⟩
 rw [Tryz.params3] at ht
 have hall : (#[9, 9] : Array Nat).all (fun t => decide (Tryz.prog.wantsStandIn t = false)) = true := by kernel_rfl
 exact (of_decide_eq_true (Array.all_eq_true_iff_forall_mem.1 hall t (Array.mem_of_getElem? ht)) : Tryz.prog.wantsStandIn t = false)
theorem card : Rows.DeskPiecesCardSaid :=
 Claim7.holds_tied_plain_at .later [] _ _ _ _ said (fun _ h => by cases h) (by kernel_rfl) (fun _ h => by cases h) deskPieces_row_tie rfl ⟨rfl, rfl⟩ (by kernel_rfl) rfl plain (by kernel_rfl)
end Go.Proofs.YtdlkjppppdminaaGreatDoor.deskPieces
