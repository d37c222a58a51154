/- interleaflaw.EnginePlays: the walk. Condition: the package variable errors.errorType holds the handle of the type error. -/
import Derived.Test.YtmfngjclccehaaaGreatDoorZ0
import Derived.Test.YtmfngjclccehaaaGreatDoorZ15
import Derived.Test.YtmfngjclccehaaaGreatDoorZ10
import Derived.Test.YtmfngjclccehaaaGreatDoorZ13
import Derived.Test.YtmfngjclccehaaaGreatDoorZ11
import Derived.Test.YtmfngjclccehaaaGreatDoorZ6
import Derived.Test.YtmfngjclccehaaaGreatDoorZ7
import Derived.Test.YtmfngjclccehaaaGreatDoorZ4
import Derived.Test.YtmfngjclccehaaaGreatDoorZ1
/- The reference's engine, and the program's, over values that there are: New, Over. -/
namespace Go.Proofs.YtmfngjclccehaaaGreatDoor
open Go Go.RowKit Go.Sep
def Eng.over (at_ : Int) (l : Vers) : Eng := if instOk 0 at_ l then { Eng.zero with V := putAll at_ (List.replicate 10 []) l, last := at_ } else Eng.zero
theorem instOk_at {at_ : Int} {l : Vers} (h : instOk 0 at_ l = true) : 0 < at_ ∧ at_ ≤ 1099511627776 := by
 unfold instOk at h
 rw [Bool.and_eq_true, decide_eq_true_eq] at h
 exact h.1
theorem instOk_nil : instOk 0 0 [] = false := by decide
theorem OkT.over (at_ : Int) (l : Vers) : OkT 10 (Eng.over at_ l) [] := by
 unfold Eng.over
 by_cases h : instOk 0 at_ l = true
 ·rw [if_pos h]
  have h0 := OkT.start
  have h1 := instOk_at h
  refine ⟨h0.few, by show (putAll at_ (List.replicate 10 []) l).length = 10; rw [putAll_length]; rfl, h0.txs, h0.wr, h0.tab.imp fun Q hQ => ⟨hQ.tab, hQ.rk, hQ.hold, hQ.key, hQ.alive, hQ.waits⟩, h0.all, h0.six, h0.cnt, fun vs hv => ?_, h0.wrs, ⟨by show 0 ≤ at_; omega, h1.2⟩, h0.hist, h0.reads, h0.fits, by simp, by simp⟩
  have h2 := putAll_row (n := 0) (at_ := at_) l (V := List.replicate 10 []) (fun vs hv => .inl (by rw [(List.mem_replicate.1 hv).2]; exact Nat.le_refl _)) vs hv
  show (vs.length : Int) ≤ 0 + 1
  rcases h2 with h2 | h2
  ·omega
  ·omega
 ·rw [if_neg h]; exact OkT.start
theorem Times.overs (at_ : Int) (l : Vers) : Times (Eng.over at_ l) := by
 unfold Eng.over
 split
 ·exact Times.start.same rfl rfl
 ·exact Times.start
theorem Whys.overs (at_ : Int) (l : Vers) : Whys (Eng.over at_ l) := by
 unfold Eng.over
 split
 ·exact Whys.start.same rfl
 ·exact Whys.start
theorem badAt_ne : ∀ {l : Vers} {m : Nat} {x p : Int}, badAt m l = some (x, p) → x ≠ 0
 | [], _, _, _, h => by simp [badAt] at h
 | q :: l, m, x, p, h => by
  unfold badAt at h
  split at h
  ·simp only [Option.some.injEq, Prod.mk.injEq] at h; omega
  ·split at h
   ·simp only [Option.some.injEq, Prod.mk.injEq] at h; omega
   ·exact badAt_ne h
theorem instErr_nil {at_ : Int} {l : Vers} (h : instOk 0 at_ l = true) : instErr 0 at_ l = .nil := by
 unfold instOk at h
 rw [Bool.and_eq_true, decide_eq_true_eq, Option.isNone_iff_eq_none] at h
 unfold instErr
 rw [if_pos h.1, h.2]
theorem instErr_some {at_ : Int} {l : Vers} (h : ¬ instOk 0 at_ l = true) : Err.errno (instErr 0 at_ l) ≠ 0 := by
 unfold instErr
 split
 ·rename_i hc
  cases hb : badAt 0 l with
  | none => exact absurd (by unfold instOk; simp [hc, hb]) h
  | some q => obtain ⟨x, p⟩ := q; exact badAt_ne hb
 ·decide
theorem Same.over (at_ : Int) (l : Vers) : ∃ K, Same (Eng.over at_ l).V (Eng.over at_ l).last K ∧ K = (if instOk 0 at_ l then [] ++ rrows at_ l 10 else []) := by
 refine ⟨_, ?_, rfl⟩
 have h := (Same.start.inst at_ l).1
 unfold Eng.over
 by_cases hk : instOk 0 at_ l = true
 ·simp only [hk, if_true] at h ⊢; exact h
 ·simp only [hk] at h ⊢; exact h
section
variable {w w0 : World} {L : List HProp} {b m : Nat}
def renVals (m : Nat) : List Value := [.slice none 0 0, .int .i64 0] ++ (List.replicate 10 (.slice none 0 0) ++ [.slice none 0 0, .int .i64 0, .map (some m), .slice none 0 0])
theorem rtab_cells {T : Nat} (h : S w0 w (cells b 2 (List.replicate 10 (.slice none 0 0)) :: L)) : S w0 w (rtabP T b 2 (List.replicate 10 []) :: L) := by
 refine .ex_intro (List.replicate 10 (.slice none 0 0)) (.sep_intro (.pur_intro ⟨rfl, rfl⟩ (.sep_intro ?_)))
 have h2 : ∀ n, S w0 w (cells b 2 (List.replicate 10 (.slice none 0 0)) :: all (List.replicate n (sl T 1 (.slice none 0 0) 0 [])) :: L) := by
  intro n
  induction n with
  | zero => exact h.conv (by simp [all, emp_sep])
  | succ n ih => exact (S.sl_nil (e := T) (size := 1) ih).conv (by simp only [all, List.replicate_succ]; rw [sep_left_comm]; simp only [sep_assoc])
 exact h2 10
theorem ren_new (h : S w0 w (blk b 56 (renVals m) :: mp encI (fun _ => True) m [] :: L)) : ∃ k, S w0 w (refP 47 109 b [] 0 :: rtabP 3 b 2 (List.replicate 10 []) :: renO b [] k Eng.zero :: L) := by
 have h1 : S w0 w (cells b 0 [.slice none 0 0, .int .i64 0] :: cells b 2 (List.replicate 10 (.slice none 0 0)) :: cells b 12 [.slice none 0 0, .int .i64 0, .map (some m), .slice none 0 0] :: shp b 56 16 :: mp encI (fun _ => True) m [] :: L) := by
  have e1 : cells b 0 (renVals m) = sep (cells b 0 [.slice none 0 0, .int .i64 0]) (sep (cells b 2 (List.replicate 10 (.slice none 0 0))) (cells b 12 [.slice none 0 0, .int .i64 0, .map (some m), .slice none 0 0])) := by
   have a1 : ∀ A B C : List Value, A.length = 2 → B.length = 10 → cells b 0 (A ++ (B ++ C)) = sep (cells b 0 A) (sep (cells b 2 B) (cells b 12 C)) := by
    intro A B C hA hB
    rw [cells_append, cells_append, hA, hB]
   exact a1 _ _ _ rfl rfl
  have e2 : blk b 56 (renVals m) = sep (shp b 56 16) (cells b 0 (renVals m)) := rfl
  refine h.conv ?_
  simp only [all]
  rw [e2, e1]
  ac_rfl
 have h2 := S.ref_intro (T := 47) (TK := 109) (b := b) (v := .slice none 0 0) (K := []) (last := 0) ((S.sl_nil (e := 109) (size := 3) h1).swap)
 have h3 := rtab_cells (T := 3) h2.swap
 have h4 : S w0 w (renG b [] (.slice none 0 0) (.slice none 0 0) m 0 0 [] [] [] :: refP 47 109 b [] 0 :: rtabP 3 b 2 (List.replicate 10 []) :: L) := by
  refine S.renG_join ⟨rfl, rfl, List.nodup_nil⟩ ?_
  have h5 := (S.sl_nil (e := 129) (size := 4) (S.sl_nil (e := 90) (size := 1) h3))
  refine h5.conv ?_
  simp only [all, List.length_nil, fcells_nil, ptrs, List.range_zero, List.map_nil, ienc, emp_sep]
  ac_rfl
 refine ⟨⟨[], .slice none 0 0, .slice none 0 0, m⟩, ?_⟩
 have h5 : S w0 w (renO b [] ⟨[], .slice none 0 0, .slice none 0 0, m⟩ Eng.zero :: refP 47 109 b [] 0 :: rtabP 3 b 2 (List.replicate 10 []) :: L) := .sep_intro (S.pur_intro (p := 0 = 0) rfl h4)
 exact h5.conv (by simp only [all]; ac_rfl)
end
set_option maxRecDepth 40000 in
theorem rnew_any (w0 w : World) (L : List HProp) (hs : S w0 w L) :
  Calls Tryz.prog 10 #[] w fun r w' => r = .returned (.pointer (some ⟨w.heap.size + 1, 0, none⟩)) ∧ ∃ k, S w0 w' (refP 47 109 (w.heap.size + 1) [] 0 :: rtabP 3 (w.heap.size + 1) 2 (List.replicate 10 []) :: renO (w.heap.size + 1) [] k Eng.zero :: L) := by
 have hmm := @run_makeMap Tryz.prog
 have h1 := (hs.made (κ := Int) (enc := encI) (ok := fun _ => True)).alloc (renVals w.heap.size).toArray 56
 rw [World.size_alloc] at h1
 have H1 := hid (ren_new h1)
 clear h1 hs
 go_enter Tryz.func10, Tryz.ntmps10
 go_wp2
 go_ret
 exact ⟨rfl, H1.out⟩
theorem ren_over {w w0 : World} {L : List HProp} {b : Nat} {k : RenV} (at_ : Int) (l : Vers) (h : S w0 w (refP 47 109 b (if instOk 0 at_ l then [] ++ rrows at_ l 10 else []) (if instOk 0 at_ l then at_ else 0) :: rtabP 3 b 2 (List.replicate 10 []) :: renO b [] k Eng.zero :: L)) : S w0 w (renP 0 [] b [] (Eng.over at_ l) :: L) := by
 obtain ⟨K, hS, rfl⟩ := Same.over at_ l
 have e1 : (Eng.over at_ l).last = if instOk 0 at_ l then at_ else 0 := by unfold Eng.over; split <;> rfl
 have e2 : (Eng.over at_ l).t = ⟨[], [], []⟩ := by unfold Eng.over; split <;> rfl
 have e3 : (Eng.over at_ l).txs = [] := by unfold Eng.over; split <;> rfl
 have e4 : renO b [] k (Eng.over at_ l) = renO b [] k Eng.zero := by unfold Eng.over; split <;> rfl
 refine S.ren_shut (k := k) (Qs := List.replicate 10 []) ⟨hS, by rw [e2]; exact SameT.start, fun j hj => by rw [e3] at hj; simp at hj⟩ ?_
 rw [e4, e1]
 exact h
set_option maxRecDepth 40000 in
theorem rover_zero (w0 w : World) (a : Option Addr) (c : Nat) (L : List HProp) (hs : S w0 w L) :
  Calls Tryz.prog 4 #[.int .i64 0, .slice a 0 c] w fun r w' => ∃ b, r = .returned (.tuple #[.pointer (some ⟨b, 0, none⟩), .agg #[.int .i64 0, .int .i64 (-1)]]) ∧ S w0 w' (renP 0 [] b [] (Eng.over 0 []) :: L) := by
 have hsx := hs.alloc #[.int .i64 0, .int .i64 0] 27
 have HS := hid hsx
 clear hs hsx
 go_enter Tryz.func4, Tryz.ntmps4
 go_wp2_with fail
 with_reducible refine (rnew_any w0 _ _ HS.out).mono ?_
 rintro r w1 ⟨rfl, k, hs1⟩
 obtain ⟨b, hb⟩ : ∃ b, b = (w.alloc (.cells #[.int .i64 0, .int .i64 0] 27)).heap.size + 1 := ⟨_, rfl⟩
 rw [← hb] at hs1 ⊢
 have H1 := hid hs1
 clear hb hs1 HS
 have H2 : Hid (S w0 w1 (blk w.heap.size 27 [.int .i64 0, .int .i64 0] :: refP 47 109 b [] 0 :: rtabP 3 b 2 (List.replicate 10 []) :: renO b [] k Eng.zero :: L)) := hid (H1.out.conv (by simp only [all]; ac_rfl))
 clear H1
 go_wp2_with (go_at_call 11; with_reducible refine (Bare_any _ _).mono ?_; rintro e w' ⟨rfl, hbw⟩; have hsb := (H2.out).onto hbw; have e0 := hsb.blk_cell 0 rfl; have e1 := hsb.blk_cell 1 rfl; have f0 := hsb.blk_free 0; have f1 := hsb.blk_free 1; have hse := (hsb.blk_set 0 (by simp) (.int .i64 0)).blk_set 1 (by simp) (.int .i64 (-1)); have r0 := hse.blk_cell 0 rfl; have r1 := hse.blk_cell 1 rfl; have HF := hid hse; clear hbw hsb hse)
 refine bodyPost_ret (v := .tuple #[.pointer (some ⟨b, 0, none⟩), .agg #[.int .i64 0, .int .i64 (-1)]]) (by simp [results, Tryz.results4, go_sem, r0, r1]) rfl ?_
 exact ⟨b, rfl, ren_over 0 [] (by rw [instOk_nil]; exact HF.out.tail)⟩
set_option maxRecDepth 40000 in
theorem rover_ok (w0 w : World) (at_ : Int) (a : Option Addr) (c : Nat) (l : Vers) (L : List HProp) (hs : S w0 w L) (hr : ∀ M, RdK w0 M (.slice a l.length c) l.length (pcells l)) (hk : instOk 0 at_ l = true) :
  Calls Tryz.prog 4 #[.int .i64 at_, .slice a l.length c] w fun r w' => ∃ b, r = .returned (.tuple #[.pointer (some ⟨b, 0, none⟩), .agg #[.int .i64 0, .int .i64 (-1)]]) ∧ S w0 w' (renP 0 [] b [] (Eng.over at_ l) :: L) := by
 have hat := instOk_at hk
 have HR := hid hr; have he := hid (instErr_nil hk)
 clear hr hk
 have hsx := hs.alloc #[.int .i64 0, .int .i64 0] 27
 have HS := hid hsx
 clear hs hsx
 go_enter Tryz.func4, Tryz.ntmps4
 go_wp2_with fail
 with_reducible refine (rnew_any w0 _ _ HS.out).mono ?_
 rintro r w1 ⟨rfl, k, hs1⟩
 obtain ⟨b, hb⟩ : ∃ b, b = (w.alloc (.cells #[.int .i64 0, .int .i64 0] 27)).heap.size + 1 := ⟨_, rfl⟩
 rw [← hb] at hs1 ⊢
 have H1 := hid hs1
 clear hb hs1 HS
 have hcall := rinstall2 w0 w1 b [] 0 at_ (.slice a l.length c) l _ H1.out (HR.out _) (by simp)
 rw [he.out] at hcall
 have HC := hid hcall
 have HRO := hid (fun W h => ren_over (w := W) (w0 := w0) (L := L) (b := b) (k := k) at_ l h)
 have hb0 : (at_ == 0) = false := by simp; omega
 clear hcall H1 he hat
 go_wp2_with fail
 with_reducible refine HC.out.mono ?_
 rintro r w2 ⟨rfl, hs2⟩
 rw [show Err.errno .nil = 0 from rfl, show Err.place .nil = -1 from rfl]
 have hs3 := hs2.alloc #[.int .i64 0, .int .i64 (-1)] 27
 have y0 := hs3.blk_cell 0 rfl
 have H2 := hid (hs3.conv (M := blk w.heap.size 27 [.int .i64 0, .int .i64 0] :: refP 47 109 b (if instOk 0 at_ l then [] ++ rrows at_ l 10 else []) (if instOk 0 at_ l then at_ else 0) :: rtabP 3 b 2 (List.replicate 10 []) :: renO b [] k Eng.zero :: blk w2.heap.size 27 [.int .i64 0, .int .i64 (-1)] :: L) (by simp only [all]; ac_rfl))
 clear hs2 hs3 HC
 go_wp2_with (go_at_call 11; with_reducible refine (Bare_any _ _).mono ?_; rintro e w' ⟨rfl, hbw⟩; have hsb := (H2.out).onto hbw; have e0 := hsb.blk_cell 0 rfl; have e1 := hsb.blk_cell 1 rfl; have f0 := hsb.blk_free 0; have f1 := hsb.blk_free 1; have hse := (hsb.blk_set 0 (by simp) (.int .i64 0)).blk_set 1 (by simp) (.int .i64 (-1)); have r0 := hse.blk_cell 0 rfl; have r1 := hse.blk_cell 1 rfl; have HF := hid hse; clear hbw hsb hse)
 refine bodyPost_ret (v := .tuple #[.pointer (some ⟨b, 0, none⟩), .agg #[.int .i64 0, .int .i64 (-1)]]) (by simp [results, Tryz.results4, go_sem, r0, r1]) rfl ?_
 have h9 := (HF.out.tail.conv (M := blk w2.heap.size 27 [.int .i64 0, .int .i64 (-1)] :: refP 47 109 b (if instOk 0 at_ l then [] ++ rrows at_ l 10 else []) (if instOk 0 at_ l then at_ else 0) :: rtabP 3 b 2 (List.replicate 10 []) :: renO b [] k Eng.zero :: L) (by simp only [all]; ac_rfl)).tail
 exact ⟨b, rfl, HRO.out _ h9⟩
set_option linter.unusedSimpArgs false in
set_option maxRecDepth 40000 in
theorem rover_no (w0 w : World) (at_ : Int) (a : Option Addr) (c : Nat) (l : Vers) (L : List HProp) (hs : S w0 w L) (hr : ∀ M, RdK w0 M (.slice a l.length c) l.length (pcells l)) (h0 : ¬ (at_ = 0 ∧ l = [])) (hk : ¬ instOk 0 at_ l = true) :
  Calls Tryz.prog 4 #[.int .i64 at_, .slice a l.length c] w fun r w' => r = .returned (.tuple #[.pointer none, .agg #[.int .i64 (Err.errno (instErr 0 at_ l)), .int .i64 (Err.place (instErr 0 at_ l))]]) ∧ S w0 w' L := by
 have hne := instErr_some hk
 obtain ⟨e1, he1⟩ : ∃ x, Err.errno (instErr 0 at_ l) = x := ⟨_, rfl⟩
 obtain ⟨e2, he2⟩ : ∃ x, Err.place (instErr 0 at_ l) = x := ⟨_, rfl⟩
 rw [he1] at hne
 rw [he1, he2]
 have HE1 := hid he1; have HE2 := hid he2
 have hb1 : (e1 != 0) = true := by simpa using hne
 have HR := hid hr
 have hE : (¬ at_ = 0) ∨ (at_ = 0 ∧ l.length ≠ 0) := by
  by_cases h : at_ = 0
  ·exact .inr ⟨h, fun hl => h0 ⟨h, List.length_eq_zero_iff.1 hl⟩⟩
  ·exact .inl h
 have HE := hid hE
 clear hr hk h0 hne hE he1 he2
 have hsx := hs.alloc #[.int .i64 0, .int .i64 0] 27
 have HS := hid hsx
 clear hs hsx
 go_enter Tryz.func4, Tryz.ntmps4
 go_wp2_with fail
 with_reducible refine (rnew_any w0 _ _ HS.out).mono ?_
 rintro r w1 ⟨rfl, k, hs1⟩
 obtain ⟨b, hb⟩ : ∃ b, b = (w.alloc (.cells #[.int .i64 0, .int .i64 0] 27)).heap.size + 1 := ⟨_, rfl⟩
 rw [← hb] at hs1 ⊢
 have H1 := hid hs1
 clear hb hs1 HS
 have hcall := rinstall2 w0 w1 b [] 0 at_ (.slice a l.length c) l _ H1.out (HR.out _) (by simp)
 rw [HE1.out, HE2.out] at hcall
 have HC := hid hcall
 clear hcall H1 HE1 HE2
 rcases HE.out with ha | ⟨ha, hl⟩
 ·have hb0 : (at_ == 0) = false := by simpa using ha
  clear ha HE
  go_wp2_with fail
  with_reducible refine HC.out.mono ?_
  rintro r w2 ⟨rfl, hs2⟩
  have hs3 := hs2.alloc #[.int .i64 e1, .int .i64 e2] 27
  have y0 := hs3.blk_cell 0 rfl
  have y1 := hs3.blk_cell 1 rfl
  have hs4 := hs3.conv (M := blk w.heap.size 27 [.int .i64 0, .int .i64 0] :: blk w2.heap.size 27 [.int .i64 e1, .int .i64 e2] :: refP 47 109 b (if instOk 0 at_ l then [] ++ rrows at_ l 10 else []) (if instOk 0 at_ l then at_ else 0) :: rtabP 3 b 2 (List.replicate 10 []) :: renO b [] k Eng.zero :: L) (by simp only [all]; ac_rfl)
  have H3 := hid hs4
  have HS0 := H3
  have hq : ∀ W {M : List HProp}, S w0 W (blk w.heap.size 27 [.int .i64 0, .int .i64 0] :: blk w2.heap.size 27 [.int .i64 e1, .int .i64 e2] :: M) → W.cell? ⟨w2.heap.size, 0, none⟩ = some (.int .i64 e1) ∧ W.cell? ⟨w2.heap.size, 1, none⟩ = some (.int .i64 e2) := fun W M h => ⟨h.tail.blk_cell 0 rfl, h.tail.blk_cell 1 rfl⟩
  have hg : ∀ W {M : List HProp}, S w0 W (blk w.heap.size 27 [.int .i64 0, .int .i64 0] :: M) → W.cell? ⟨w.heap.size, 0, none⟩ = some (.int .i64 0) ∧ W.cell? ⟨w.heap.size, 1, none⟩ = some (.int .i64 0) ∧ W.frozen? ⟨w.heap.size, 0, none⟩ = false ∧ W.frozen? ⟨w.heap.size, 1, none⟩ = false := fun W M h => ⟨h.blk_cell 0 rfl, h.blk_cell 1 rfl, h.blk_free 0, h.blk_free 1⟩
  have HQ := hid hq; have HG := hid hg
  clear hs2 hs3 hs4 HC hq hg H3
  go_upto_region 6 with fail
  clear y0 y1
  refine region_U (S := fun w' => w'.cell? ⟨w2.heap.size, 0, none⟩ = some (.int .i64 e1) ∧ w'.cell? ⟨w2.heap.size, 1, none⟩ = some (.int .i64 e2)) (u := 2) (by kernel_rfl) (HQ.out _ HS0.out.drew) (fun hHeld => ?_)
  refine anyU_take (i := 0) (v := ?_) rfl (by kernel_rfl) (fun _ _ _ h => h) (Or.inl ⟨by rfl, ?_⟩) hHeld ?_
  rotate_left
  ·(intro w hSw; (try dsimp only at hSw); go_simp) <;> with_reducible rfl
  try simp only [putU]
  refine anyU_take (i := 1) (v := ?_) rfl (by kernel_rfl) (fun _ _ _ h => h) (Or.inl ⟨by rfl, ?_⟩) hHeld ?_
  rotate_left
  ·(intro w hSw; (try dsimp only at hSw); go_simp) <;> with_reducible rfl
  try simp only [putU]
  have HS := hid HS0.out.drew
  clear hHeld
  refine anyU_world (fun w => Hid (S w0 w _)) HS (fun w1 HS => ?_)
  clear HS0
  refine anyU_next (rs := [2]) (by kernel_rfl) (by simp) ?_
  refine NextU.cons rfl (fun K hK => ?_) ?_
  ·obtain ⟨g0, g1, g2, g3⟩ := HG.out _ HS.out
   go_simp
   refine hK.out _ _ (fun h => Bool.noConfusion (show true = false from h)) ?_
   clear hK K
   refine anyU_done (by kernel_rfl) ?_ _
   have HF := hid ((HS.out.blk_set 0 (by simp) (.int .i64 e1)).blk_set 1 (by simp) (.int .i64 e2))
   have r0 := HF.out.blk_cell 0 rfl
   have r1 := HF.out.blk_cell 1 rfl
   clear HS
   go_wp2_with fail
   refine bodyPost_ret (v := .tuple #[.pointer none, .agg #[.int .i64 e1, .int .i64 e2]]) (by simp [results, Tryz.results4, go_sem, r0, r1]) rfl ?_
   exact ⟨rfl, HF.out.tail.tail.tail.tail.tail⟩
  exact NextU.nil
 ·have hb0 : ((l.length : Int) == 0) = false := by simpa using hl
  subst ha
  clear hl HE
  go_wp2_with fail
  with_reducible refine HC.out.mono ?_
  rintro r w2 ⟨rfl, hs2⟩
  have hs3 := hs2.alloc #[.int .i64 e1, .int .i64 e2] 27
  have y0 := hs3.blk_cell 0 rfl
  have y1 := hs3.blk_cell 1 rfl
  have hs4 := hs3.conv (M := blk w.heap.size 27 [.int .i64 0, .int .i64 0] :: blk w2.heap.size 27 [.int .i64 e1, .int .i64 e2] :: refP 47 109 b (if instOk 0 0 l then [] ++ rrows 0 l 10 else []) (if instOk 0 0 l then 0 else 0) :: rtabP 3 b 2 (List.replicate 10 []) :: renO b [] k Eng.zero :: L) (by simp only [all]; ac_rfl)
  have H3 := hid hs4
  have HS0 := H3
  have hq : ∀ W {M : List HProp}, S w0 W (blk w.heap.size 27 [.int .i64 0, .int .i64 0] :: blk w2.heap.size 27 [.int .i64 e1, .int .i64 e2] :: M) → W.cell? ⟨w2.heap.size, 0, none⟩ = some (.int .i64 e1) ∧ W.cell? ⟨w2.heap.size, 1, none⟩ = some (.int .i64 e2) := fun W M h => ⟨h.tail.blk_cell 0 rfl, h.tail.blk_cell 1 rfl⟩
  have hg : ∀ W {M : List HProp}, S w0 W (blk w.heap.size 27 [.int .i64 0, .int .i64 0] :: M) → W.cell? ⟨w.heap.size, 0, none⟩ = some (.int .i64 0) ∧ W.cell? ⟨w.heap.size, 1, none⟩ = some (.int .i64 0) ∧ W.frozen? ⟨w.heap.size, 0, none⟩ = false ∧ W.frozen? ⟨w.heap.size, 1, none⟩ = false := fun W M h => ⟨h.blk_cell 0 rfl, h.blk_cell 1 rfl, h.blk_free 0, h.blk_free 1⟩
  have HQ := hid hq; have HG := hid hg
  clear hs2 hs3 hs4 HC hq hg H3
  go_upto_region 6 with fail
  clear y0 y1
  refine region_U (S := fun w' => w'.cell? ⟨w2.heap.size, 0, none⟩ = some (.int .i64 e1) ∧ w'.cell? ⟨w2.heap.size, 1, none⟩ = some (.int .i64 e2)) (u := 2) (by kernel_rfl) (HQ.out _ HS0.out.drew) (fun hHeld => ?_)
  refine anyU_take (i := 0) (v := ?_) rfl (by kernel_rfl) (fun _ _ _ h => h) (Or.inl ⟨by rfl, ?_⟩) hHeld ?_
  rotate_left
  ·(intro w hSw; (try dsimp only at hSw); go_simp) <;> with_reducible rfl
  try simp only [putU]
  refine anyU_take (i := 1) (v := ?_) rfl (by kernel_rfl) (fun _ _ _ h => h) (Or.inl ⟨by rfl, ?_⟩) hHeld ?_
  rotate_left
  ·(intro w hSw; (try dsimp only at hSw); go_simp) <;> with_reducible rfl
  try simp only [putU]
  have HS := hid HS0.out.drew
  clear hHeld
  refine anyU_world (fun w => Hid (S w0 w _)) HS (fun w1 HS => ?_)
  clear HS0
  refine anyU_next (rs := [2]) (by kernel_rfl) (by simp) ?_
  refine NextU.cons rfl (fun K hK => ?_) ?_
  ·obtain ⟨g0, g1, g2, g3⟩ := HG.out _ HS.out
   go_simp
   refine hK.out _ _ (fun h => Bool.noConfusion (show true = false from h)) ?_
   clear hK K
   refine anyU_done (by kernel_rfl) ?_ _
   have HF := hid ((HS.out.blk_set 0 (by simp) (.int .i64 e1)).blk_set 1 (by simp) (.int .i64 e2))
   have r0 := HF.out.blk_cell 0 rfl
   have r1 := HF.out.blk_cell 1 rfl
   clear HS
   go_wp2_with fail
   refine bodyPost_ret (v := .tuple #[.pointer none, .agg #[.int .i64 e1, .int .i64 e2]]) (by simp [results, Tryz.results4, go_sem, r0, r1]) rfl ?_
   exact ⟨rfl, HF.out.tail.tail.tail.tail.tail⟩
  exact NextU.nil
end Go.Proofs.YtmfngjclccehaaaGreatDoor
/- The program's engine over values that there are: Over. -/
namespace Go.Proofs.YtmfngjclccehaaaGreatDoor
open Go Go.RowKit Go.Sep
section
variable {w w0 : World} {L : List HProp} {b : Nat} {k : EngV}
theorem eng_over (at_ : Int) (l : Vers) (h : S w0 w (storeP 107 b 0 (if instOk 0 at_ l then putAll at_ (List.replicate 10 []) l else List.replicate 10 []) (if instOk 0 at_ l then at_ else 0) :: tabP 3 b 11 Eng.zero.t :: engO b [] k Eng.zero :: L)) : S w0 w (engP b [] (Eng.over at_ l) :: L) := by
 have e0 : (Eng.over at_ l).V = if instOk 0 at_ l then putAll at_ (List.replicate 10 []) l else List.replicate 10 [] := by unfold Eng.over; split <;> rfl
 have e1 : (Eng.over at_ l).last = if instOk 0 at_ l then at_ else 0 := by unfold Eng.over; split <;> rfl
 have e2 : (Eng.over at_ l).t = Eng.zero.t := by unfold Eng.over; split <;> rfl
 have e4 : engO b [] k (Eng.over at_ l) = engO b [] k Eng.zero := by unfold Eng.over; split <;> rfl
 refine S.eng_shut (k := k) ?_
 rw [e0, e1, e2, e4]
 exact h
end
set_option maxRecDepth 40000 in
theorem eover_zero (w0 w : World) (a : Option Addr) (c : Nat) (L : List HProp) (hs : S w0 w L) :
  Calls Tryz.prog 5 #[.int .i64 0, .slice a 0 c] w fun r w' => ∃ b, r = .returned (.tuple #[.pointer (some ⟨b, 0, none⟩), .nilIface]) ∧ S w0 w' (engP b [] (Eng.over 0 []) :: L) := by
 have HS := hid hs
 have he : Eng.over 0 [] = Eng.zero := by unfold Eng.over; rw [instOk_nil]; rfl
 rw [he]
 clear hs he
 go_enter Tryz.func5, Tryz.ntmps5
 go_wp2_with fail
 with_reducible refine (new_any w0 w L HS.out).mono ?_
 rintro r w1 ⟨rfl, hs1⟩
 have H1 := hid hs1
 clear hs1 HS
 go_wp2_with fail
 go_ret2
 exact ⟨_, rfl, H1.out⟩
set_option maxRecDepth 40000 in
theorem eover_ok (w0 w : World) (at_ : Int) (a : Option Addr) (c : Nat) (l : Vers) (L : List HProp) (hs : S w0 w L) (hr : ∀ M, RdK w0 M (.slice a l.length c) l.length (pcells l)) (hk : instOk 0 at_ l = true) (hl : l.length ≤ 1000) :
  Calls Tryz.prog 5 #[.int .i64 at_, .slice a l.length c] w fun r w' => ∃ b, r = .returned (.tuple #[.pointer (some ⟨b, 0, none⟩), .nilIface]) ∧ S w0 w' (engP b [] (Eng.over at_ l) :: L) := by
 have hat := instOk_at hk
 have HS := hid hs; have HR := hid hr; have he := hid (instErr_nil hk)
 have hb0 : (at_ == 0) = false := by simp; omega
 clear hs hr hk hat
 go_enter Tryz.func5, Tryz.ntmps5
 go_wp2_with fail
 with_reducible refine (new_any w0 w L HS.out).mono ?_
 rintro r w1 ⟨rfl, hs1⟩
 generalize w.heap.size + 1 = b at *
 obtain ⟨k, hs2⟩ := hs1.eng_open
 have hcall := install2 w0 w1 b 0 Eng.zero.V Eng.zero.last at_ (.slice a l.length c) l _ 0 hs2 (HR.out _) (fun vs hv => by rw [(List.mem_replicate.1 hv).2]; exact Nat.le_refl _) (by omega)
 have HC := hid hcall
 clear hs1 hs2 hcall HS
 go_wp2_with fail
 with_reducible refine HC.out.mono ?_
 rintro r w2 ⟨u, rfl, hs3⟩
 rw [show instErr Eng.zero.last at_ l = .nil from he.out] at hs3
 obtain ⟨rfl, hs4⟩ := S.pur_elim hs3
 have H4 := hid (eng_over at_ l hs4)
 clear hs3 hs4 HC
 go_wp2_with fail
 go_ret2
 exact ⟨_, rfl, H4.out⟩
set_option maxRecDepth 40000 in
theorem eover_no (w0 w : World) (at_ : Int) (a : Option Addr) (c : Nat) (l : Vers) (L : List HProp) (hs : S w0 w L) (hr : ∀ M, RdK w0 M (.slice a l.length c) l.length (pcells l)) (h0 : ¬ (at_ = 0 ∧ l = [])) (hk : ¬ instOk 0 at_ l = true) (hl : l.length ≤ 1000) :
  Calls Tryz.prog 5 #[.int .i64 at_, .slice a l.length c] w fun r w' => ∃ u, r = .returned (.tuple #[.pointer none, u]) ∧ S w0 w' (errP 25 113 112 u (instErr 0 at_ l) :: L) := by
 have hne := instErr_some hk
 have HS := hid hs; have HR := hid hr; have HNE := hid hne
 have hE : (¬ at_ = 0) ∨ (at_ = 0 ∧ l.length ≠ 0) := by
  by_cases h : at_ = 0
  ·exact .inr ⟨h, fun hl => h0 ⟨h, List.length_eq_zero_iff.1 hl⟩⟩
  ·exact .inl h
 have hu : ∀ (W : World) (M : List HProp) u, S w0 W (errP 25 113 112 u (instErr 0 at_ l) :: M) → ∃ T x, u = .iface T x := fun W M u h => by
  generalize instErr 0 at_ l = er at h hne
  cases er with
  | nil => exact absurd rfl hne
  | no e => exact ⟨_, _, (S.pur_elim h).1⟩
  | at_ e p =>
   obtain ⟨g, h⟩ := h.ex_elim
   exact ⟨_, _, h.sep_elim.pur_elim.1⟩
 have HE := hid hE; have HU := hid hu
 clear hs hr hk h0 hne hE hu
 rcases HE.out with ha | ⟨ha, hl0⟩
 ·have hb0 : (at_ == 0) = false := by simpa using ha
  clear ha HE
  go_enter Tryz.func5, Tryz.ntmps5
  go_wp2_with fail
  with_reducible refine (new_any w0 w L HS.out).mono ?_
  rintro r w1 ⟨rfl, hs1⟩
  generalize w.heap.size + 1 = b at *
  obtain ⟨k, hs2⟩ := hs1.eng_open
  have hcall := install2 w0 w1 b 0 Eng.zero.V Eng.zero.last at_ (.slice a l.length c) l _ 0 hs2 (HR.out _) (fun vs hv => by rw [(List.mem_replicate.1 hv).2]; exact Nat.le_refl _) (by omega)
  have HC := hid hcall
  clear hs1 hs2 hcall HS
  go_wp2_with fail
  with_reducible refine HC.out.mono ?_
  rintro r w2 ⟨u, rfl, hs3⟩
  obtain ⟨T, x, rfl⟩ := HU.out _ _ _ hs3
  have H4 := hid (hs3.conv (M := storeP 107 b 0 (if instOk Eng.zero.last at_ l then putAll at_ Eng.zero.V l else Eng.zero.V) (if instOk Eng.zero.last at_ l then at_ else Eng.zero.last) :: tabP 3 b 11 Eng.zero.t :: engO b [] k Eng.zero :: errP 25 113 112 (.iface T x) (instErr Eng.zero.last at_ l) :: L) (by simp only [all]; ac_rfl)).tail.tail.tail
  clear hs3 HC
  go_wp2_with fail
  go_ret2
  exact ⟨_, rfl, H4.out⟩
 ·have hb0 : ((l.length : Int) == 0) = false := by simpa using hl0
  subst ha
  clear hl0 HE
  go_enter Tryz.func5, Tryz.ntmps5
  go_wp2_with fail
  with_reducible refine (new_any w0 w L HS.out).mono ?_
  rintro r w1 ⟨rfl, hs1⟩
  generalize w.heap.size + 1 = b at *
  obtain ⟨k, hs2⟩ := hs1.eng_open
  have hcall := install2 w0 w1 b 0 Eng.zero.V Eng.zero.last 0 (.slice a l.length c) l _ 0 hs2 (HR.out _) (fun vs hv => by rw [(List.mem_replicate.1 hv).2]; exact Nat.le_refl _) (by omega)
  have HC := hid hcall
  clear hs1 hs2 hcall HS
  go_wp2_with fail
  with_reducible refine HC.out.mono ?_
  rintro r w2 ⟨u, rfl, hs3⟩
  obtain ⟨T, x, rfl⟩ := HU.out _ _ _ hs3
  have H4 := hid (hs3.conv (M := storeP 107 b 0 (if instOk Eng.zero.last 0 l then putAll 0 Eng.zero.V l else Eng.zero.V) (if instOk Eng.zero.last 0 l then 0 else Eng.zero.last) :: tabP 3 b 11 Eng.zero.t :: engO b [] k Eng.zero :: errP 25 113 112 (.iface T x) (instErr Eng.zero.last 0 l) :: L) (by simp only [all]; ac_rfl)).tail.tail.tail
  clear hs3 HC
  go_wp2_with fail
  go_ret2
  exact ⟨_, rfl, H4.out⟩
end Go.Proofs.YtmfngjclccehaaaGreatDoor
/- What is asked of two engines, side by side: the plain engine, act by act. No walk in sight. -/
namespace Go.Proofs.YtmfngjclccehaaaGreatDoor
open Go Go.RowKit Go.Sep
structure Act4 where
 what : Int
 tx : Int
 key : Int
 value : Int
def acts4 (a : Act4) : List Value := [.int .i64 a.what, .int .i64 a.tx, .int .i64 a.key, .int .i64 a.value]
noncomputable def Eng.act (e : Eng) (a : Act4) : Eng :=
 if a.what = 0 then (e.begin_ a.key).1 else if a.what = 1 then (e.read a.tx a.key).1 else if a.what = 2 then (e.write a.tx a.key a.value).1 else
 if a.what = 3 then (e.commit a.tx).1 else if a.what = 4 then (e.abort a.tx).1 else if a.what = 5 then e.sweep.1 else e
structure Fits (N : Nat) (e : Eng) : Prop where
 ok : OkT N e []
 times : Times e
 whys : Whys e
theorem Fits.mono {N M : Nat} {e : Eng} (h : Fits N e) (hM : N ≤ M) : Fits M e := ⟨h.ok.mono hM, h.times, h.whys⟩
theorem Fits.act {N : Nat} {e : Eng} (h : Fits N e) (a : Act4) : Fits (N + 1000) (e.act a) := by
 have hm := h.mono (M := N + 1000) (by omega)
 unfold Eng.act
 split
 ·exact ⟨(h.ok.begun _).mono (by omega), h.times.begin_ h.ok.cnt.1 _, h.whys.begun _⟩
 split
 ·exact ⟨h.ok.red _ _, h.times.red _ _, h.whys.red h.ok _ _⟩
 split
 ·exact ⟨h.ok.wrote _ _ _, h.times.wrote h.ok _ _ _, h.whys.wrote h.ok _ _ _⟩
 split
 ·exact ⟨(h.ok.committed _).mono (by omega), h.times.committed _, h.whys.committed h.ok _⟩
 split
 ·exact ⟨(h.ok.aborted _).mono (by omega), h.times.aborted _, h.whys.aborted h.ok _⟩
 split
 ·exact ⟨(h.ok.swept).mono (by omega), h.times.same rfl rfl, h.whys.same rfl⟩
 ·exact hm
end Go.Proofs.YtmfngjclccehaaaGreatDoor
/- The program's engine: History, All. -/
namespace Go.Proofs.YtmfngjclccehaaaGreatDoor
open Go Go.RowKit Go.Sep
theorem opcF_length (o : Op1) : (opc o).length = 4 := rfl
set_option maxHeartbeats 1000000 in
set_option maxRecDepth 20000 in
theorem clone_ops (w0 w : World) (v : Value) (l : List Op1) (L : List HProp) (hs : S w0 w L) (hr : RdK w0 L v l.length (fcells opc l)) (hb : l.length ≤ 1000000000000) :
  Calls Tryz.prog 71 #[v] w fun e w' => ∃ v', e = .returned v' ∧ S w0 w' (sl 129 4 v' l.length (fcells opc l) :: L) := by
 obtain ⟨a, cap, rfl, hcap, hcap2, hrd⟩ := hr w hs
 have heq := fun w => Lib.run_eql_slice_nil (P := Tryz.prog) w 54 129 a l.length cap 0 0 Tryz.underlying54
 have hlp := fcells_length opcF_length l
 clear hcap2
 cases a with
 | none =>
  have hl0 : l = [] := by
   apply List.eq_nil_of_length_eq_zero
   rcases Nat.eq_zero_or_pos l.length with h | h
   ·exact h
   ·obtain ⟨b, o, hb, _⟩ := hrd 0 ((fcells opc l)[0]'(by omega)) (by simp)
    cases hb
  subst hl0
  simp only [List.length_nil] at heq
  have hfin : S w0 w (sl 129 4 (.slice none 0 0) 0 [] :: L) := hs.sl_nil
  have HF := hid hfin; clear hfin hs hr hrd hlp
  go_enter Tryz.func71, Tryz.ntmps71
  go_wp2_with fail
  go_ret
  exact ⟨_, rfl, HF.out⟩
 | some a =>
  obtain ⟨i0, hi0, hz0, hz1, hz2⟩ := info_parts Tryz.infoE129
  have hs1 : S w0 (w.alloc (.cells #[] 129)) (sl 129 4 (.slice (some ⟨w.heap.size, 0, none⟩) 0 0) 0 [] :: L) := (hs.alloc #[] 129).sl_blk (n := 0) (by simp) (by simp)
  have hn1 : ∀ j u, (fcells opc l)[j]? = some u → ∃ b, some a = some b ∧ (w.alloc (.cells #[] 129)).cell? (b.add j) = some u := by
   intro j u hj
   obtain ⟨b, o, hb, hc⟩ := hrd j u hj
   cases hb
   refine ⟨_, rfl, ?_⟩
   have e1 : (⟨b, o, none⟩ : Addr).add j = ⟨b, o + j, none⟩ := by unfold Addr.add; split <;> simp_all
   rw [e1, World.cell?_alloc_lt _ _ _ (World.block_lt_of_cell? w _ hc)]; exact hc
  have hone : ∀ u ∈ fcells opc l, u.oneCell' = true := by
   intro u hu
   simp only [fcells, List.mem_flatMap] at hu
   obtain ⟨p, _, hu⟩ := hu
   exact one_op p u hu
  have H1 := hid hs1; have H2 := hid hn1; have H3 := hid hone; have H4 := hid hlp
  clear hs1 hn1 hone hs hr hrd hlp
  go_enter Tryz.func71, Tryz.ntmps71
  go_wp2_with (at_builtin; refine wpList_append rfl (.tmp 5) (.tmp 6) 54 rfl 129 i0 _ 4 32 Tryz.underlying54 hi0 hz0 hz1 hz2 rfl (by decide) H1.out rfl (some a) l.length cap (fcells opc l) rfl H4.out H2.out H3.out (by unfold maxLen; omega) (by omega) ?_; intro v1 w1 hs1; have HS := hid hs1; clear hs1)
  go_ret
  exact ⟨_, rfl, by simpa using HS.out⟩
theorem ehist_any (w0 w : World) (b : Nat) (bs : List Nat) (e : Eng) (L : List HProp) (N : Nat) (U : List Task) (hok : OkT N e U) (hN : N ≤ 90000000) (hs : S w0 w (engP b bs e :: L)) :
  Calls Tryz.prog 37 #[.pointer (some ⟨b, 0, none⟩)] w fun r w' => ∃ v, r = .returned v ∧ S w0 w' (sl 129 4 v e.hist.length (fcells opc e.hist) :: engP b bs e :: L) := by
 have hcnt := hok.cnt
 have hfew := hok.few
 have hhist := hok.hist
 have hhb : (e.hist.length : Int) ≤ 400 * 90000010 := by
  have h1 : e.count * ((N : Int) + 10) ≤ 400 * ((N : Int) + 10) := Int.mul_le_mul_of_nonneg_right (by omega) (by omega)
  omega
 obtain ⟨k, hs⟩ := hs.eng_open
 have hO : S w0 w (engO b bs k e :: storeP 107 b 0 e.V e.last :: tabP 3 b 11 e.t :: L) := hs.conv (by simp only [all]; ac_rfl)
 have c17 := hO.eng_c.2.hist
 have hcl := clone_ops w0 w k.hv e.hist _ hO.hi_open RdK.own (by omega)
 have HCL := hid hcl
 clear hs hO hcl hok hhist
 go_enter Tryz.func37, Tryz.ntmps37
 go_wp2_with fail
 with_reducible refine HCL.out.mono ?_
 rintro r w' ⟨v, rfl, hs'⟩
 have H4 := hid hs'
 clear hs'
 go_wp2_with fail
 go_ret
 refine ⟨_, rfl, ?_⟩
 have h5 : S w0 w' (storeP 107 b 0 e.V e.last :: tabP 3 b 11 e.t :: engO b bs k e :: sl 129 4 v e.hist.length (fcells opc e.hist) :: L) := H4.out.conv (by simp only [all, engO, engG, hiX]; ac_rfl)
 exact (h5.eng_shut).swap
def Eng.allV (e : Eng) : List (Int × Int) := allL (fun k => readV (e.row k) e.last) 10
set_option maxRecDepth 40000 in
theorem eall_any (w0 w : World) (b : Nat) (bs : List Nat) (e : Eng) (L : List HProp) (N : Nat) (U : List Task) (hok : OkT N e U) (hs : S w0 w (engP b bs e :: L)) :
  Calls Tryz.prog 34 #[.pointer (some ⟨b, 0, none⟩)] w fun r w' => ∃ v, r = .returned v ∧ S w0 w' (sl 101 2 v e.allV.length (pcells e.allV) :: engP b bs e :: L) := by
 obtain ⟨k, hs⟩ := hs.eng_open
 have hla := last_any b 0 e.last w.drew hs.drew.store_last.1
 have hal := sall_any w0 w.drew b e.V e.last e.last _ hs.drew (fun vs hv => by have := hok.row_le vs hv; omega)
 have HLA := hid hla; have HAL := hid hal
 clear hs hla hal hok
 go_enter Tryz.func34, Tryz.ntmps34
 go_wp2_with fail
 go_region_with (first | (go_at_call 48; with_reducible refine HLA.out.mono ?_; rintro r w' ⟨rfl, rfl⟩) | (go_at_call 70; with_reducible refine HAL.out.mono ?_; rintro r w' ⟨v, rfl, hs'⟩; have H4 := hid hs'; clear hs'))
 all_goals
  go_wp2_with fail
  go_ret
  refine ⟨_, rfl, ?_⟩
  have h5 := H4.out.conv (M := storeP 107 b 0 e.V e.last :: tabP 3 b 11 e.t :: engO b bs k e :: sl 101 2 _ e.allV.length (pcells e.allV) :: L) (by simp only [all, Eng.allV, Eng.row]; ac_rfl)
  exact (h5.eng_shut).swap
end Go.Proofs.YtmfngjclccehaaaGreatDoor
/- interleaflaw.does: one of an engine, of the program's and of the reference's. Condition: the package variable errors.errorType holds the handle of the type error. -/
namespace Go.Proofs.YtmfngjclccehaaaGreatDoor
open Go Go.RowKit Go.Sep
theorem ready_eng (w0 w : World) (b : Nat) (bs : List Nat) (e : Eng) (n : Int) (L : List HProp) (N : Nat) (hok : OkT N e []) (hs : S w0 w (engP b bs e :: L)) :
  Calls Tryz.prog 28 #[.pointer (some ⟨b, 0, none⟩), .int .i64 n] w fun r w' => r = .returned (errV (e.ready n)) ∧ w = w' := by
 obtain ⟨k, h⟩ := hs.eng_open
 exact ready_any w0 w b bs k e n (storeP 107 b 0 e.V e.last :: tabP 3 b 11 e.t :: L) N [] hok (h.conv (by simp only [all]; ac_rfl))
theorem ready_ren (w0 w : World) (b : Nat) (bs : List Nat) (e : Eng) (n : Int) (L : List HProp) (N M : Nat) (hok : OkT N e []) (hs : S w0 w (renP M [] b bs e :: L)) :
  Calls Tryz.prog 29 #[.pointer (some ⟨b, 0, none⟩), .int .i64 n] w fun r w' => r = .returned (.int .i64 (e.ready n)) ∧ w = w' := by
 obtain ⟨k, K, Qs, _, h⟩ := hs.ren_open
 exact rready_any w0 w b bs k e n _ N [] hok h.ren_o
theorem bareV (er : Int) (w0 w : World) (L : List HProp) (hE : ErrT w0) (hs : S w0 w L) :
  Calls Tryz.prog 17 #[errV er, .int .i64 er] w fun ev w' => ev = .returned (.bool true) ∧ S w0 w' L := bare2 er w0 w L hE hs
section
variable {w0 w : World} {b1 b2 : Nat} {bs1 bs2 : List Nat} {e : Eng} {what tx key value : Int} {L : List HProp} {N M : Nat}
def DoesPost (w0 : World) (b1 b2 M : Nat) (e : Eng) (L : List HProp) (r : Ending) (w' : World) : Prop := r = .returned (.bool true) ∧ ∃ bs1' bs2', S w0 w' (engP b1 bs1' e :: renP (M + 1) [] b2 bs2' e :: L)
set_option maxRecDepth 40000 in
theorem does_begin (hE : ErrT w0) (hf : Fits N e) (hs : S w0 w (engP b1 bs1 e :: renP M [] b2 bs2 e :: L)) :
  Calls Tryz.prog 8 #[.pointer (some ⟨b1, 0, none⟩), .pointer (some ⟨b2, 0, none⟩), .agg #[.int .i64 0, .int .i64 tx, .int .i64 key, .int .i64 value]] w (DoesPost w0 b1 b2 M ((e.begin_ key).1) L) := by
 have hsx := hs.alloc #[.int .i64 0, .int .i64 tx, .int .i64 key, .int .i64 value] 40
 have hcl : ∀ W {M' : List HProp}, S w0 W (blk w.heap.size 40 [.int .i64 0, .int .i64 tx, .int .i64 key, .int .i64 value] :: M') → W.cell? ⟨w.heap.size, 0, none⟩ = some (.int .i64 0) ∧ W.cell? ⟨w.heap.size, 1, none⟩ = some (.int .i64 tx) ∧ W.cell? ⟨w.heap.size, 2, none⟩ = some (.int .i64 key) ∧ W.cell? ⟨w.heap.size, 3, none⟩ = some (.int .i64 value) := fun W M' h => ⟨h.blk_cell 0 rfl, h.blk_cell 1 rfl, h.blk_cell 2 rfl, h.blk_cell 3 rfl⟩
 obtain ⟨x0, x1, x2, x3⟩ := hcl _ hsx
 have H0 := hid hsx; have HCL := hid hcl; have HF := hid hf
 clear hs hsx hcl hf
 have hr : ∀ W {M' : List HProp}, S w0 W (renP M [] b2 bs2 e :: M') → _ := fun W M' h => rbegin_any w0 W b2 bs2 e key M' N M HF.out.ok h
 have hp : ∀ W {M' : List HProp}, S w0 W (engP b1 bs1 e :: M') → _ := fun W M' h => ebegin_any w0 W b1 bs1 e key M' N HF.out.ok h
 obtain ⟨rr, hrr⟩ : ∃ rr, e.begin_ key = rr := ⟨_, rfl⟩
 rw [hrr] at hr hp ⊢
 obtain ⟨e', v, er⟩ := rr
 simp only at hr hp ⊢
 have HR := hid hr; have HP := hid hp
 clear hr hp hrr
 go_enter Tryz.func8, Tryz.ntmps8
 go_wp2_with fail
 with_reducible refine (HR.out _ (H0.out.conv (M := renP M [] b2 bs2 e :: blk w.heap.size 40 [.int .i64 0, .int .i64 tx, .int .i64 key, .int .i64 value] :: engP b1 bs1 e :: L) (by simp only [all]; ac_rfl))).mono ?_
 rintro r w1 ⟨rfl, bs2n, hs1⟩
 obtain ⟨y0, y1, y2, y3⟩ := HCL.out _ hs1.swap
 have H1 := hid hs1
 clear hs1 H0 x0 x1 x2 x3 HR
 go_wp2_with fail
 with_reducible refine (HP.out _ (H1.out.conv (M := engP b1 bs1 e :: renP M [] b2 bs2n e' :: blk w.heap.size 40 [.int .i64 0, .int .i64 tx, .int .i64 key, .int .i64 value] :: L) (by simp only [all]; ac_rfl))).mono ?_
 rintro r w2 ⟨rfl, bs1n, hs2⟩
 have H2 := hid hs2
 clear hs2 H1 HP y0 y1 y2 y3
 go_wp2_with (go_at_call 17; with_reducible refine (bareV er w0 _ _ hE H2.out).mono ?_; rintro r w3 ⟨rfl, hs3⟩; have H3 := hid hs3; clear hs3)
 go_ret
 refine ⟨rfl, bs1n, bs2n, ?_⟩
 exact (H3.out.conv (M := blk w.heap.size 40 [.int .i64 0, .int .i64 tx, .int .i64 key, .int .i64 value] :: engP b1 bs1n e' :: renP M [] b2 bs2n e' :: L) (by simp only [all]; ac_rfl)).tail.swap |>.ren_mono (Nat.le_succ M) |>.swap
set_option maxRecDepth 40000 in
theorem does_read (hE : ErrT w0) (hf : Fits N e) (hN : N ≤ 80000000) (hM : M + 1 ≤ 1000000) (hs : S w0 w (engP b1 bs1 e :: renP M [] b2 bs2 e :: L)) :
  Calls Tryz.prog 8 #[.pointer (some ⟨b1, 0, none⟩), .pointer (some ⟨b2, 0, none⟩), .agg #[.int .i64 1, .int .i64 tx, .int .i64 key, .int .i64 value]] w (DoesPost w0 b1 b2 M ((e.read tx key).1) L) := by
 have hsx := hs.alloc #[.int .i64 1, .int .i64 tx, .int .i64 key, .int .i64 value] 40
 have hcl : ∀ W {M' : List HProp}, S w0 W (blk w.heap.size 40 [.int .i64 1, .int .i64 tx, .int .i64 key, .int .i64 value] :: M') → W.cell? ⟨w.heap.size, 0, none⟩ = some (.int .i64 1) ∧ W.cell? ⟨w.heap.size, 1, none⟩ = some (.int .i64 tx) ∧ W.cell? ⟨w.heap.size, 2, none⟩ = some (.int .i64 key) ∧ W.cell? ⟨w.heap.size, 3, none⟩ = some (.int .i64 value) := fun W M' h => ⟨h.blk_cell 0 rfl, h.blk_cell 1 rfl, h.blk_cell 2 rfl, h.blk_cell 3 rfl⟩
 obtain ⟨x0, x1, x2, x3⟩ := hcl _ hsx
 have H0 := hid hsx; have HCL := hid hcl; have HF := hid hf
 clear hs hsx hcl hf
 have hr : ∀ W {M' : List HProp}, S w0 W (renP M [] b2 bs2 e :: M') → _ := fun W M' h => rreadE_any w0 W b2 bs2 e tx key M' N M HF.out.ok HF.out.times (by omega) (by omega) h
 have hp : ∀ W {M' : List HProp}, S w0 W (engP b1 bs1 e :: M') → _ := fun W M' h => eread_any w0 W b1 bs1 e tx key M' N hE HF.out.ok (by omega) h
 obtain ⟨rr, hrr⟩ : ∃ rr, e.read tx key = rr := ⟨_, rfl⟩
 rw [hrr] at hr hp ⊢
 obtain ⟨e', v, er⟩ := rr
 simp only at hr hp ⊢
 have HR := hid hr; have HP := hid hp
 clear hr hp hrr
 go_enter Tryz.func8, Tryz.ntmps8
 go_wp2_with fail
 with_reducible refine (HR.out _ (H0.out.conv (M := renP M [] b2 bs2 e :: blk w.heap.size 40 [.int .i64 1, .int .i64 tx, .int .i64 key, .int .i64 value] :: engP b1 bs1 e :: L) (by simp only [all]; ac_rfl))).mono ?_
 rintro r w1 ⟨rfl, hs1⟩
 obtain ⟨y0, y1, y2, y3⟩ := HCL.out _ hs1.swap
 have H1 := hid hs1
 clear hs1 H0 x0 x1 x2 x3 HR
 go_wp2_with fail
 with_reducible refine (HP.out _ (H1.out.conv (M := engP b1 bs1 e :: renP M [] b2 bs2 e' :: blk w.heap.size 40 [.int .i64 1, .int .i64 tx, .int .i64 key, .int .i64 value] :: L) (by simp only [all]; ac_rfl))).mono ?_
 rintro r w2 ⟨rfl, hs2⟩
 have H2 := hid hs2
 clear hs2 H1 HP y0 y1 y2 y3
 go_wp2_with (go_at_call 17; with_reducible refine (bareV er w0 _ _ hE H2.out).mono ?_; rintro r w3 ⟨rfl, hs3⟩; have H3 := hid hs3; clear hs3)
 go_ret
 refine ⟨rfl, bs1, bs2, ?_⟩
 exact (H3.out.conv (M := blk w.heap.size 40 [.int .i64 1, .int .i64 tx, .int .i64 key, .int .i64 value] :: engP b1 bs1 e' :: renP M [] b2 bs2 e' :: L) (by simp only [all]; ac_rfl)).tail.swap |>.ren_mono (Nat.le_succ M) |>.swap
set_option maxRecDepth 40000 in
theorem does_write (hE : ErrT w0) (hf : Fits N e) (hN : N ≤ 80000000) (hM : M + 1 ≤ 1000000) (hs : S w0 w (engP b1 bs1 e :: renP M [] b2 bs2 e :: L)) :
  Calls Tryz.prog 8 #[.pointer (some ⟨b1, 0, none⟩), .pointer (some ⟨b2, 0, none⟩), .agg #[.int .i64 2, .int .i64 tx, .int .i64 key, .int .i64 value]] w (DoesPost w0 b1 b2 M ((e.write tx key value).1) L) := by
 have hsx := hs.alloc #[.int .i64 2, .int .i64 tx, .int .i64 key, .int .i64 value] 40
 have hcl : ∀ W {M' : List HProp}, S w0 W (blk w.heap.size 40 [.int .i64 2, .int .i64 tx, .int .i64 key, .int .i64 value] :: M') → W.cell? ⟨w.heap.size, 0, none⟩ = some (.int .i64 2) ∧ W.cell? ⟨w.heap.size, 1, none⟩ = some (.int .i64 tx) ∧ W.cell? ⟨w.heap.size, 2, none⟩ = some (.int .i64 key) ∧ W.cell? ⟨w.heap.size, 3, none⟩ = some (.int .i64 value) := fun W M' h => ⟨h.blk_cell 0 rfl, h.blk_cell 1 rfl, h.blk_cell 2 rfl, h.blk_cell 3 rfl⟩
 obtain ⟨x0, x1, x2, x3⟩ := hcl _ hsx
 have H0 := hid hsx; have HCL := hid hcl; have HF := hid hf
 clear hs hsx hcl hf
 have hr : ∀ W {M' : List HProp}, S w0 W (renP M [] b2 bs2 e :: M') → _ := fun W M' h => rwriteE_any w0 W b2 bs2 e tx key value M' N M HF.out.ok HF.out.times HF.out.whys (by omega) hM h
 have hp : ∀ W {M' : List HProp}, S w0 W (engP b1 bs1 e :: M') → _ := fun W M' h => ewrite_any w0 W b1 bs1 e tx key value M' N HF.out.ok (by omega) h
 obtain ⟨rr, hrr⟩ : ∃ rr, e.write tx key value = rr := ⟨_, rfl⟩
 rw [hrr] at hr hp ⊢
 obtain ⟨e', v, er⟩ := rr
 simp only at hr hp ⊢
 have HR := hid hr; have HP := hid hp
 clear hr hp hrr
 go_enter Tryz.func8, Tryz.ntmps8
 go_wp2_with fail
 with_reducible refine (HR.out _ (H0.out.conv (M := renP M [] b2 bs2 e :: blk w.heap.size 40 [.int .i64 2, .int .i64 tx, .int .i64 key, .int .i64 value] :: engP b1 bs1 e :: L) (by simp only [all]; ac_rfl))).mono ?_
 rintro r w1 ⟨rfl, hs1⟩
 obtain ⟨y0, y1, y2, y3⟩ := HCL.out _ hs1.swap
 have H1 := hid hs1
 clear hs1 H0 x0 x1 x2 x3 HR
 go_wp2_with fail
 with_reducible refine (HP.out _ (H1.out.conv (M := engP b1 bs1 e :: renP (M + 1) [] b2 bs2 e' :: blk w.heap.size 40 [.int .i64 2, .int .i64 tx, .int .i64 key, .int .i64 value] :: L) (by simp only [all]; ac_rfl))).mono ?_
 rintro r w2 ⟨rfl, hs2⟩
 have H2 := hid hs2
 clear hs2 H1 HP y0 y1 y2 y3
 go_wp2_with (go_at_call 17; with_reducible refine (bareV er w0 _ _ hE H2.out).mono ?_; rintro r w3 ⟨rfl, hs3⟩; have H3 := hid hs3; clear hs3)
 go_ret
 refine ⟨rfl, bs1, bs2, ?_⟩
 exact (H3.out.conv (M := blk w.heap.size 40 [.int .i64 2, .int .i64 tx, .int .i64 key, .int .i64 value] :: engP b1 bs1 e' :: renP (M + 1) [] b2 bs2 e' :: L) (by simp only [all]; ac_rfl)).tail
set_option maxRecDepth 40000 in
theorem does_commit (hE : ErrT w0) (hf : Fits N e) (hN : N ≤ 80000000) (hM : M + 1 ≤ 1000000) (hs : S w0 w (engP b1 bs1 e :: renP M [] b2 bs2 e :: L)) :
  Calls Tryz.prog 8 #[.pointer (some ⟨b1, 0, none⟩), .pointer (some ⟨b2, 0, none⟩), .agg #[.int .i64 3, .int .i64 tx, .int .i64 key, .int .i64 value]] w (DoesPost w0 b1 b2 M ((e.commit tx).1) L) := by
 have hsx := hs.alloc #[.int .i64 3, .int .i64 tx, .int .i64 key, .int .i64 value] 40
 have hcl : ∀ W {M' : List HProp}, S w0 W (blk w.heap.size 40 [.int .i64 3, .int .i64 tx, .int .i64 key, .int .i64 value] :: M') → W.cell? ⟨w.heap.size, 0, none⟩ = some (.int .i64 3) ∧ W.cell? ⟨w.heap.size, 1, none⟩ = some (.int .i64 tx) ∧ W.cell? ⟨w.heap.size, 2, none⟩ = some (.int .i64 key) ∧ W.cell? ⟨w.heap.size, 3, none⟩ = some (.int .i64 value) := fun W M' h => ⟨h.blk_cell 0 rfl, h.blk_cell 1 rfl, h.blk_cell 2 rfl, h.blk_cell 3 rfl⟩
 obtain ⟨x0, x1, x2, x3⟩ := hcl _ hsx
 have H0 := hid hsx; have HCL := hid hcl; have HF := hid hf
 clear hs hsx hcl hf
 have hr : ∀ W {M' : List HProp}, S w0 W (renP M [] b2 bs2 e :: M') → _ := fun W M' h => rcommit_any w0 W b2 bs2 e tx M' N M HF.out.ok HF.out.times (by omega) (by omega) h
 have hp : ∀ W {M' : List HProp}, S w0 W (engP b1 bs1 e :: M') → _ := fun W M' h => ecommit_any w0 W b1 bs1 e tx M' N hE HF.out.ok (by omega) h
 obtain ⟨rr, hrr⟩ : ∃ rr, e.commit tx = rr := ⟨_, rfl⟩
 rw [hrr] at hr hp ⊢
 obtain ⟨e', er⟩ := rr
 simp only at hr hp ⊢
 have HR := hid hr; have HP := hid hp
 have q0 := (HCL.out _ H0.out.drew).2.1
 clear hr hp hrr x1 x2 x3
 go_enter Tryz.func8, Tryz.ntmps8
 go_wp2_with fail
 go_region_held_law (fun w' => w'.cell? ⟨w.heap.size, 1, none⟩ = some (.int .i64 tx)) (first | (with_reducible assumption) | (with_reducible exact q0) | (with_reducible exact q1) | (with_reducible exact q2) | (with_reducible exact q3))
  (first
   | (go_at_call 22; with_reducible refine (HP.out _ (H0.out.drew.conv (M := engP b1 bs1 e :: blk w.heap.size 40 [.int .i64 3, .int .i64 tx, .int .i64 key, .int .i64 value] :: renP M [] b2 bs2 e :: L) (by simp only [all]; ac_rfl))).mono ?_; rintro r w1 ⟨rfl, hs1⟩; have q1 := (HCL.out _ hs1.swap).2.1; have G1 := hid hs1; clear hs1)
   | (go_at_call 23; with_reducible refine (HR.out _ (G1.out.conv (M := renP M [] b2 bs2 e :: engP b1 bs1 e' :: blk w.heap.size 40 [.int .i64 3, .int .i64 tx, .int .i64 key, .int .i64 value] :: L) (by simp only [all]; ac_rfl))).mono ?_; rintro r w2 ⟨rfl, hs2⟩; have q2 := (HCL.out _ hs2.rot3).2.1; have G2 := hid hs2; clear hs2)
   | (go_at_call 17; with_reducible refine (bareV er w0 _ _ hE G2.out).mono ?_; rintro r w3 ⟨rfl, hs3⟩; have q3 := (HCL.out _ hs3.rot3).2.1; have G3 := hid hs3; clear hs3))
 go_wp2_with fail
 go_ret
 refine ⟨rfl, bs1, bs2, ?_⟩
 exact (G3.out.conv (M := blk w.heap.size 40 [.int .i64 3, .int .i64 tx, .int .i64 key, .int .i64 value] :: renP M [] b2 bs2 e' :: engP b1 bs1 e' :: L) (by simp only [all]; ac_rfl)).tail |>.ren_mono (Nat.le_succ M) |>.swap
set_option maxRecDepth 40000 in
theorem does_abort (hE : ErrT w0) (hf : Fits N e) (hN : N ≤ 80000000) (hM : M + 1 ≤ 1000000) (hs : S w0 w (engP b1 bs1 e :: renP M [] b2 bs2 e :: L)) :
  Calls Tryz.prog 8 #[.pointer (some ⟨b1, 0, none⟩), .pointer (some ⟨b2, 0, none⟩), .agg #[.int .i64 4, .int .i64 tx, .int .i64 key, .int .i64 value]] w (DoesPost w0 b1 b2 M ((e.abort tx).1) L) := by
 have hsx := hs.alloc #[.int .i64 4, .int .i64 tx, .int .i64 key, .int .i64 value] 40
 have hcl : ∀ W {M' : List HProp}, S w0 W (blk w.heap.size 40 [.int .i64 4, .int .i64 tx, .int .i64 key, .int .i64 value] :: M') → W.cell? ⟨w.heap.size, 0, none⟩ = some (.int .i64 4) ∧ W.cell? ⟨w.heap.size, 1, none⟩ = some (.int .i64 tx) ∧ W.cell? ⟨w.heap.size, 2, none⟩ = some (.int .i64 key) ∧ W.cell? ⟨w.heap.size, 3, none⟩ = some (.int .i64 value) := fun W M' h => ⟨h.blk_cell 0 rfl, h.blk_cell 1 rfl, h.blk_cell 2 rfl, h.blk_cell 3 rfl⟩
 obtain ⟨x0, x1, x2, x3⟩ := hcl _ hsx
 have H0 := hid hsx; have HCL := hid hcl; have HF := hid hf
 clear hs hsx hcl hf
 have hr : ∀ W {M' : List HProp}, S w0 W (renP M [] b2 bs2 e :: M') → _ := fun W M' h => rabort_any w0 W b2 bs2 e tx M' N M HF.out.ok HF.out.times (by omega) (by omega) h
 have hp : ∀ W {M' : List HProp}, S w0 W (engP b1 bs1 e :: M') → _ := fun W M' h => abort_any w0 W b1 bs1 e tx M' N HF.out.ok (by omega) h
 obtain ⟨rr, hrr⟩ : ∃ rr, e.abort tx = rr := ⟨_, rfl⟩
 rw [hrr] at hr hp ⊢
 obtain ⟨e', er⟩ := rr
 simp only at hr hp ⊢
 have HR := hid hr; have HP := hid hp
 have q0 := (HCL.out _ H0.out.drew).2.1
 clear hr hp hrr x1 x2 x3
 go_enter Tryz.func8, Tryz.ntmps8
 go_wp2_with fail
 go_region_held_law (fun w' => w'.cell? ⟨w.heap.size, 1, none⟩ = some (.int .i64 tx)) (first | (with_reducible assumption) | (with_reducible exact q0) | (with_reducible exact q1) | (with_reducible exact q2) | (with_reducible exact q3))
  (first
   | (go_at_call 24; with_reducible refine (HP.out _ (H0.out.drew.conv (M := engP b1 bs1 e :: blk w.heap.size 40 [.int .i64 4, .int .i64 tx, .int .i64 key, .int .i64 value] :: renP M [] b2 bs2 e :: L) (by simp only [all]; ac_rfl))).mono ?_; rintro r w1 ⟨rfl, hs1⟩; have q1 := (HCL.out _ hs1.swap).2.1; have G1 := hid hs1; clear hs1)
   | (go_at_call 25; with_reducible refine (HR.out _ (G1.out.conv (M := renP M [] b2 bs2 e :: engP b1 bs1 e' :: blk w.heap.size 40 [.int .i64 4, .int .i64 tx, .int .i64 key, .int .i64 value] :: L) (by simp only [all]; ac_rfl))).mono ?_; rintro r w2 ⟨rfl, hs2⟩; have q2 := (HCL.out _ hs2.rot3).2.1; have G2 := hid hs2; clear hs2)
   | (go_at_call 17; with_reducible refine (bareV er w0 _ _ hE G2.out).mono ?_; rintro r w3 ⟨rfl, hs3⟩; have q3 := (HCL.out _ hs3.rot3).2.1; have G3 := hid hs3; clear hs3))
 go_wp2_with fail
 go_ret
 refine ⟨rfl, bs1, bs2, ?_⟩
 exact (G3.out.conv (M := blk w.heap.size 40 [.int .i64 4, .int .i64 tx, .int .i64 key, .int .i64 value] :: renP M [] b2 bs2 e' :: engP b1 bs1 e' :: L) (by simp only [all]; ac_rfl)).tail |>.ren_mono (Nat.le_succ M) |>.swap
set_option maxRecDepth 40000 in
theorem does_ready (hE : ErrT w0) (hf : Fits N e) (hs : S w0 w (engP b1 bs1 e :: renP M [] b2 bs2 e :: L)) :
  Calls Tryz.prog 8 #[.pointer (some ⟨b1, 0, none⟩), .pointer (some ⟨b2, 0, none⟩), .agg #[.int .i64 6, .int .i64 tx, .int .i64 key, .int .i64 value]] w (DoesPost w0 b1 b2 M (e) L) := by
 have hsx := hs.alloc #[.int .i64 6, .int .i64 tx, .int .i64 key, .int .i64 value] 40
 have hcl : ∀ W {M' : List HProp}, S w0 W (blk w.heap.size 40 [.int .i64 6, .int .i64 tx, .int .i64 key, .int .i64 value] :: M') → W.cell? ⟨w.heap.size, 0, none⟩ = some (.int .i64 6) ∧ W.cell? ⟨w.heap.size, 1, none⟩ = some (.int .i64 tx) ∧ W.cell? ⟨w.heap.size, 2, none⟩ = some (.int .i64 key) ∧ W.cell? ⟨w.heap.size, 3, none⟩ = some (.int .i64 value) := fun W M' h => ⟨h.blk_cell 0 rfl, h.blk_cell 1 rfl, h.blk_cell 2 rfl, h.blk_cell 3 rfl⟩
 obtain ⟨x0, x1, x2, x3⟩ := hcl _ hsx
 have H0 := hid hsx; have HCL := hid hcl; have HF := hid hf
 clear hs hsx hcl hf
 have hr : ∀ W {M' : List HProp}, S w0 W (renP M [] b2 bs2 e :: M') → _ := fun W M' h => ready_ren w0 W b2 bs2 e tx M' N M HF.out.ok h
 have hp : ∀ W {M' : List HProp}, S w0 W (engP b1 bs1 e :: M') → _ := fun W M' h => ready_eng w0 W b1 bs1 e tx M' N HF.out.ok h
 generalize e.ready tx = er at hr hp
 have q0 := (HCL.out _ H0.out.drew).2.1
 have HR := hid (hr _ (H0.out.drew.conv (M := renP M [] b2 bs2 e :: engP b1 bs1 e :: blk w.heap.size 40 [.int .i64 6, .int .i64 tx, .int .i64 key, .int .i64 value] :: L) (by simp only [all]; ac_rfl))); have HP := hid (hp _ (H0.out.drew.conv (M := engP b1 bs1 e :: blk w.heap.size 40 [.int .i64 6, .int .i64 tx, .int .i64 key, .int .i64 value] :: renP M [] b2 bs2 e :: L) (by simp only [all]; ac_rfl)))
 clear hr hp x1 x2 x3
 go_enter Tryz.func8, Tryz.ntmps8
 go_wp2_with fail
 go_region_held_law (fun w' => w'.cell? ⟨w.heap.size, 1, none⟩ = some (.int .i64 tx)) (first | (with_reducible assumption) | (with_reducible exact q0) | (with_reducible exact q1) | (with_reducible exact q2) | (with_reducible exact q3))
  (first
   | (go_at_call 28; with_reducible refine HP.out.mono ?_; rintro r w1 ⟨rfl, rfl⟩)
   | (go_at_call 29; with_reducible refine HR.out.mono ?_; rintro r w2 ⟨rfl, rfl⟩)
   | (go_at_call 17; with_reducible refine (bareV er w0 _ _ hE H0.out.drew).mono ?_; rintro r w3 ⟨rfl, hs3⟩; have q3 := (HCL.out _ hs3).2.1; have G3 := hid hs3; clear hs3))
 go_wp2_with fail
 go_ret
 refine ⟨rfl, bs1, bs2, ?_⟩
 exact (G3.out.tail.swap.ren_mono (Nat.le_succ M)).swap
set_option maxRecDepth 40000 in
theorem does_sweep (hf : Fits N e) (hs : S w0 w (engP b1 bs1 e :: renP M [] b2 bs2 e :: L)) :
  Calls Tryz.prog 8 #[.pointer (some ⟨b1, 0, none⟩), .pointer (some ⟨b2, 0, none⟩), .agg #[.int .i64 5, .int .i64 tx, .int .i64 key, .int .i64 value]] w (DoesPost w0 b1 b2 M (e.sweep.1) L) := by
 have hsx := hs.alloc #[.int .i64 5, .int .i64 tx, .int .i64 key, .int .i64 value] 40
 have hcl : ∀ W {M' : List HProp}, S w0 W (blk w.heap.size 40 [.int .i64 5, .int .i64 tx, .int .i64 key, .int .i64 value] :: M') → W.cell? ⟨w.heap.size, 0, none⟩ = some (.int .i64 5) ∧ W.cell? ⟨w.heap.size, 1, none⟩ = some (.int .i64 tx) ∧ W.cell? ⟨w.heap.size, 2, none⟩ = some (.int .i64 key) ∧ W.cell? ⟨w.heap.size, 3, none⟩ = some (.int .i64 value) := fun W M' h => ⟨h.blk_cell 0 rfl, h.blk_cell 1 rfl, h.blk_cell 2 rfl, h.blk_cell 3 rfl⟩
 obtain ⟨x0, x1, x2, x3⟩ := hcl _ hsx
 have H0 := hid hsx; have HCL := hid hcl; have HF := hid hf
 clear hs hsx hcl hf
 have hr : ∀ W {M' : List HProp}, S w0 W (renP M [] b2 bs2 e :: M') → _ := fun W M' h => rsweepE_any w0 W b2 bs2 e M' N M [] [] HF.out.ok h
 have hp : ∀ W {M' : List HProp}, S w0 W (engP b1 bs1 e :: M') → _ := fun W M' h => sweep_eng w0 W b1 bs1 e M' N [] HF.out.ok h
 generalize e.sweep = rr at hr hp ⊢
 obtain ⟨e', v⟩ := rr
 simp only at hr hp ⊢
 have HR := hid hr; have HP := hid hp
 clear hr hp
 go_enter Tryz.func8, Tryz.ntmps8
 go_wp2_with fail
 with_reducible refine (HP.out _ (H0.out.conv (M := engP b1 bs1 e :: blk w.heap.size 40 [.int .i64 5, .int .i64 tx, .int .i64 key, .int .i64 value] :: renP M [] b2 bs2 e :: L) (by simp only [all]; ac_rfl))).mono ?_
 rintro r w1 ⟨rfl, hs1⟩
 have H1 := hid hs1
 clear hs1 H0 x0 x1 x2 x3 HP
 go_wp2_with fail
 with_reducible refine (HR.out _ (H1.out.conv (M := renP M [] b2 bs2 e :: engP b1 bs1 e' :: blk w.heap.size 40 [.int .i64 5, .int .i64 tx, .int .i64 key, .int .i64 value] :: L) (by simp only [all]; ac_rfl))).mono ?_
 rintro r w2 ⟨rfl, hs2⟩
 have H2 := hid hs2
 clear hs2 H1 HR
 go_wp2_with fail
 go_ret
 refine ⟨by simp, bs1, bs2, ?_⟩
 exact (H2.out.conv (M := blk w.heap.size 40 [.int .i64 5, .int .i64 tx, .int .i64 key, .int .i64 value] :: renP M [] b2 bs2 e' :: engP b1 bs1 e' :: L) (by simp only [all]; ac_rfl)).tail |>.ren_mono (Nat.le_succ M) |>.swap
set_option maxRecDepth 40000 in
theorem does_none (hf : Fits N e) (hk : what ≠ 0 ∧ what ≠ 1 ∧ what ≠ 2 ∧ what ≠ 3 ∧ what ≠ 4 ∧ what ≠ 5 ∧ what ≠ 6) (hs : S w0 w (engP b1 bs1 e :: renP M [] b2 bs2 e :: L)) :
  Calls Tryz.prog 8 #[.pointer (some ⟨b1, 0, none⟩), .pointer (some ⟨b2, 0, none⟩), .agg #[.int .i64 what, .int .i64 tx, .int .i64 key, .int .i64 value]] w (DoesPost w0 b1 b2 M (e) L) := by
 have hsx := hs.alloc #[.int .i64 what, .int .i64 tx, .int .i64 key, .int .i64 value] 40
 have hcl : ∀ W {M' : List HProp}, S w0 W (blk w.heap.size 40 [.int .i64 what, .int .i64 tx, .int .i64 key, .int .i64 value] :: M') → W.cell? ⟨w.heap.size, 0, none⟩ = some (.int .i64 what) ∧ W.cell? ⟨w.heap.size, 1, none⟩ = some (.int .i64 tx) ∧ W.cell? ⟨w.heap.size, 2, none⟩ = some (.int .i64 key) ∧ W.cell? ⟨w.heap.size, 3, none⟩ = some (.int .i64 value) := fun W M' h => ⟨h.blk_cell 0 rfl, h.blk_cell 1 rfl, h.blk_cell 2 rfl, h.blk_cell 3 rfl⟩
 obtain ⟨x0, x1, x2, x3⟩ := hcl _ hsx
 have H0 := hid hsx; have HCL := hid hcl; have HF := hid hf
 have hb0 : (what == 0) = false := by simpa using hk.1
 have hb1 : (what == 1) = false := by simpa using hk.2.1
 have hb2 : (what == 2) = false := by simpa using hk.2.2.1
 have hb3 : (what == 3) = false := by simpa using hk.2.2.2.1
 have hb4 : (what == 4) = false := by simpa using hk.2.2.2.2.1
 have hb5 : (what == 5) = false := by simpa using hk.2.2.2.2.2.1
 have hb6 : (what == 6) = false := by simpa using hk.2.2.2.2.2.2
 clear hk
 clear hs hsx hcl hf
 go_enter Tryz.func8, Tryz.ntmps8
 go_wp2_with fail
 go_ret
 refine ⟨rfl, bs1, bs2, ?_⟩
 exact (H0.out.tail.swap.ren_mono (Nat.le_succ M)).swap
end
theorem does_any (w0 w : World) (b1 b2 : Nat) (bs1 bs2 : List Nat) (e : Eng) (a : Act4) (L : List HProp) (N M : Nat) (hE : ErrT w0) (hf : Fits N e) (hN : N ≤ 80000000) (hM : M + 1 ≤ 1000000) (hs : S w0 w (engP b1 bs1 e :: renP M [] b2 bs2 e :: L)) :
  Calls Tryz.prog 8 #[.pointer (some ⟨b1, 0, none⟩), .pointer (some ⟨b2, 0, none⟩), .agg #[.int .i64 a.what, .int .i64 a.tx, .int .i64 a.key, .int .i64 a.value]] w (DoesPost w0 b1 b2 M (e.act a) L) := by
 obtain ⟨what, tx, key, value⟩ := a
 simp only
 by_cases h0 : what = 0
 ·subst h0
  have h : e.act ⟨0, tx, key, value⟩ = (e.begin_ key).1 := by unfold Eng.act; simp
  rw [h]
  exact does_begin hE hf hs
 by_cases h1 : what = 1
 ·subst h1
  have h : e.act ⟨1, tx, key, value⟩ = (e.read tx key).1 := by unfold Eng.act; simp
  rw [h]
  exact does_read hE hf hN hM hs
 by_cases h2 : what = 2
 ·subst h2
  have h : e.act ⟨2, tx, key, value⟩ = (e.write tx key value).1 := by unfold Eng.act; simp
  rw [h]
  exact does_write hE hf hN hM hs
 by_cases h3 : what = 3
 ·subst h3
  have h : e.act ⟨3, tx, key, value⟩ = (e.commit tx).1 := by unfold Eng.act; simp
  rw [h]
  exact does_commit hE hf hN hM hs
 by_cases h4 : what = 4
 ·subst h4
  have h : e.act ⟨4, tx, key, value⟩ = (e.abort tx).1 := by unfold Eng.act; simp
  rw [h]
  exact does_abort hE hf hN hM hs
 by_cases h5 : what = 5
 ·subst h5
  have h : e.act ⟨5, tx, key, value⟩ = e.sweep.1 := by unfold Eng.act; simp
  rw [h]
  exact does_sweep hf hs
 by_cases h6 : what = 6
 ·subst h6
  have h : e.act ⟨6, tx, key, value⟩ = e := by unfold Eng.act; simp
  rw [h]
  exact does_ready hE hf hs
 have h : e.act ⟨what, tx, key, value⟩ = e := by unfold Eng.act; simp [h0, h1, h2, h3, h4, h5]
 rw [h]
 exact does_none hf ⟨h0, h1, h2, h3, h4, h5, h6⟩ hs
end Go.Proofs.YtmfngjclccehaaaGreatDoor
/- What the laws ask of two slices that hold the same. -/
namespace Go.Proofs.YtmfngjclccehaaaGreatDoor
open Go Go.RowKit Go.Sep
theorem Tryz.neqWs (p : Int × Int) (w : World) : (binOp .neq 101 (.agg #[.int .i64 p.1, .int .i64 p.2]) (.agg #[.int .i64 p.1, .int .i64 p.2])).run Tryz.prog w = .ok (.bool false) w := by
 go_simp
theorem Tryz.neqOs (p : Op1) (w : World) : (binOp .neq 129 (.agg #[.int .i64 p.tx, .int .i64 p.key, .bool p.wr, .int .i64 p.fr]) (.agg #[.int .i64 p.tx, .int .i64 p.key, .bool p.wr, .int .i64 p.fr])).run Tryz.prog w = .ok (.bool false) w := by
 go_simp
set_option maxRecDepth 20000 in
set_option maxHeartbeats 2000000 in
theorem eqWrites_any (w0 w : World) (va vb : Value) (l : List (Int × Int)) (L : List HProp) (hs : S w0 w (sl 101 2 va l.length (pcells l) :: sl 101 2 vb l.length (pcells l) :: L)) :
  Calls Tryz.prog 33 #[va, vb] w fun e w' => e = .returned (.bool true) ∧ S w0 w' (sl 101 2 va l.length (pcells l) :: sl 101 2 vb l.length (pcells l) :: L) := by
 obtain ⟨aa, ca, rfl, hca, hca2, _⟩ := hs.sl_val
 obtain ⟨ab, cb, rfl, hcb, hcb2, _⟩ := hs.swap.sl_val
 unfold maxLen at hca2 hcb2
 have HS := hid hs
 clear hs
 go_enter Tryz.func33, Tryz.ntmps33
 go_wp2_with fail
 go_loopw [5] (fun iv wr => ∃ i : Nat, i ≤ l.length ∧ iv = .int .i64 i ∧ S w0 wr (sl 101 2 (.slice aa l.length ca) l.length (pcells l) :: sl 101 2 (.slice ab l.length cb) l.length (pcells l) :: L)) (fun iv _ => l.length - (intOf iv).toNat)
 case atStart => exact ⟨0, Nat.zero_le _, rfl, HS.out⟩
 case round =>
  obtain ⟨i, hi, rfl, hsr⟩ := hrel
  clear HS
  by_cases hlt : i < l.length
  ·have hx : l[i]? = some l[i] := by simp [hlt]
   generalize l[i] = x at hx
   obtain ⟨b1, o1, rfl, _, d0, d1⟩ := hsr.drew.sl_pair hx
   obtain ⟨b2, o2, rfl, _, f0, f1⟩ := hsr.drew.swap.sl_pair hx
   have hnw := fun w => Tryz.neqWs x w
   have H1 := hid hsr.drew
   clear hx hsr
   go_wp2_with fail
   go_region
   go_wp2_with fail
   go_roundw
   case rel => exact ⟨i + 1, by omega, by go_num, H1.out⟩
   case measure => simp [intOf]; omega
  ·obtain rfl : i = l.length := by omega
   have H1 := hid hsr
   clear hsr
   go_wp2_with fail
   go_ret
   exact ⟨rfl, H1.out⟩
set_option maxRecDepth 20000 in
set_option maxHeartbeats 2000000 in
theorem eqOps_any (w0 w : World) (va vb : Value) (l : List Op1) (L : List HProp) (hs : S w0 w (sl 129 4 va l.length (fcells opc l) :: sl 129 4 vb l.length (fcells opc l) :: L)) :
  Calls Tryz.prog 36 #[va, vb] w fun e w' => e = .returned (.bool true) ∧ S w0 w' (sl 129 4 va l.length (fcells opc l) :: sl 129 4 vb l.length (fcells opc l) :: L) := by
 obtain ⟨aa, ca, rfl, hca, hca2, _⟩ := hs.sl_val
 obtain ⟨ab, cb, rfl, hcb, hcb2, _⟩ := hs.swap.sl_val
 unfold maxLen at hca2 hcb2
 have HS := hid hs
 clear hs
 go_enter Tryz.func36, Tryz.ntmps36
 go_wp2_with fail
 go_loopw [5] (fun iv wr => ∃ i : Nat, i ≤ l.length ∧ iv = .int .i64 i ∧ S w0 wr (sl 129 4 (.slice aa l.length ca) l.length (fcells opc l) :: sl 129 4 (.slice ab l.length cb) l.length (fcells opc l) :: L)) (fun iv _ => l.length - (intOf iv).toNat)
 case atStart => exact ⟨0, Nat.zero_le _, rfl, HS.out⟩
 case round =>
  obtain ⟨i, hi, rfl, hsr⟩ := hrel
  clear HS
  by_cases hlt : i < l.length
  ·have hx : l[i]? = some l[i] := by simp [hlt]
   generalize l[i] = x at hx
   obtain ⟨b1, o1, rfl, _, hc1⟩ := hsr.drew.sl_f opc_length hx (by omega)
   obtain ⟨b2, o2, rfl, _, hc2⟩ := hsr.drew.swap.sl_f opc_length hx (by omega)
   have d0 := hc1 0 _ rfl
   have d1 := hc1 1 _ rfl
   have d2 := hc1 2 _ rfl
   have d3 := hc1 3 _ rfl
   have f0 := hc2 0 _ rfl
   have f1 := hc2 1 _ rfl
   have f2 := hc2 2 _ rfl
   have f3 := hc2 3 _ rfl
   rw [Nat.add_zero] at d0 f0
   have hnw := fun w => Tryz.neqOs x w
   have H1 := hid hsr.drew
   clear hx hsr hc1 hc2
   go_wp2_with fail
   go_region
   go_wp2_with fail
   go_roundw
   case rel => exact ⟨i + 1, by omega, by go_num, H1.out⟩
   case measure => simp [intOf]; omega
  ·obtain rfl : i = l.length := by omega
   have H1 := hid hsr
   clear hsr
   go_wp2_with fail
   go_ret
   exact ⟨rfl, H1.out⟩
end Go.Proofs.YtmfngjclccehaaaGreatDoor
/- The program's engine: Many. -/
namespace Go.Proofs.YtmfngjclccehaaaGreatDoor
open Go Go.RowKit Go.Sep
theorem emany_any (w0 w : World) (b : Nat) (e : Eng) (L : List HProp) (hs : S w0 w (storeP 107 b 0 e.V e.last :: L)) (hN : ∀ vs ∈ e.V, vs.length ≤ 2000000) :
  Calls Tryz.prog 32 #[.pointer (some ⟨b, 0, none⟩)] w fun r w' => r = .returned (.int .i64 (manyV e.V)) ∧ w = w' := by
 have hc := many_any w0 w b 0 e.V e.last L hs hN
 have HC := hid hc
 clear hs hc hN
 go_enter Tryz.func32, Tryz.ntmps32
 go_wp2_with fail
 with_reducible refine HC.out.mono ?_
 rintro r w' ⟨rfl, rfl⟩
 go_wp2_with fail
 go_ret
 exact ⟨rfl, rfl⟩
end Go.Proofs.YtmfngjclccehaaaGreatDoor
/- interleaflaw.alike: all that an engine tells is the document's. Condition: the package variable errors.errorType holds the handle of the type error. -/
namespace Go.Proofs.YtmfngjclccehaaaGreatDoor
open Go Go.RowKit Go.Sep
section
variable {w w0 : World} {L : List HProp} {b : Nat} {bs : List Nat} {e : Eng}
theorem state_eng (n : Int) (hs : S w0 w (engP b bs e :: L)) :
  Calls Tryz.prog 39 #[.pointer (some ⟨b, 0, none⟩), .int .i64 n] w fun r w' => r = .returned (.tuple #[.int .i64 (e.state n).1, .int .i64 (e.state n).2.1, errV (e.state n).2.2]) ∧ S w0 w' (engP b bs e :: L) := by
 obtain ⟨k, h⟩ := hs.eng_open
 have hO : S w0 w (engO b bs k e :: storeP 107 b 0 e.V e.last :: tabP 3 b 11 e.t :: L) := h.conv (by simp only [all]; ac_rfl)
 exact (state_any w0 w b bs k e n _ hO).mono fun r w' ⟨h1, h2⟩ => ⟨h1, S.eng_shut (k := k) (h2.conv (by simp only [all]; ac_rfl))⟩
theorem waits_eng (n : Int) (hs : S w0 w (engP b bs e :: L)) :
  Calls Tryz.prog 42 #[.pointer (some ⟨b, 0, none⟩), .int .i64 n] w fun r w' => r = .returned (.int .i64 (e.waits n)) ∧ w = w' := by
 obtain ⟨k, h⟩ := hs.eng_open
 exact ewaits_any w0 w b e n (storeP 107 b 0 e.V e.last :: engO b bs k e :: L) (h.conv (by simp only [all]; ac_rfl))
theorem txs_eng (hs : S w0 w (engP b bs e :: L)) :
  Calls Tryz.prog 30 #[.pointer (some ⟨b, 0, none⟩)] w fun r w' => r = .returned (.int .i64 e.txs.length) ∧ w = w' := by
 obtain ⟨k, h⟩ := hs.eng_open
 exact txs_any w0 w b bs k e (storeP 107 b 0 e.V e.last :: tabP 3 b 11 e.t :: L) (h.conv (by simp only [all]; ac_rfl))
theorem last_eng (hs : S w0 w (engP b bs e :: L)) :
  Calls Tryz.prog 31 #[.pointer (some ⟨b, 0, none⟩)] w fun r w' => r = .returned (.int .i64 e.last) ∧ w = w' := by
 obtain ⟨k, h⟩ := hs.eng_open
 exact elast_any w0 w b e _ h
theorem many_eng {N : Nat} {U : List Task} (hok : OkT N e U) (hs : S w0 w (engP b bs e :: L)) :
  Calls Tryz.prog 32 #[.pointer (some ⟨b, 0, none⟩)] w fun r w' => r = .returned (.int .i64 (manyV e.V)) ∧ w = w' := by
 obtain ⟨k, h⟩ := hs.eng_open
 exact emany_any w0 w b e _ h fun vs hv => by have := hok.row_le vs hv; omega
theorem allV_out {K : List Kep} (hS : Go.Proofs.YtmfngjclccehaaaGreatDoor.Same e.V e.last K) : allOut K e.last = e.allV := by
 unfold Eng.allV allOut
 exact allL_congr fun n hn => by
  show rread K n e.last = readV (e.row n) e.last
  unfold Eng.row
  rw [Int.toNat_natCast, hS.key n hn, hS.read n hn]; rfl
theorem _root_.Go.Sep.S.hj_shut {k : RenV} (h : S w0 w (sl 129 4 k.hv e.hist.length (fcells opc e.hist) :: hjX b bs k e :: L)) : S w0 w (renO b bs k e :: L) := by
 refine h.conv ?_
 simp only [all, renO, renG, hjX]
 ac_rfl
end
set_option linter.unusedSimpArgs false in
set_option maxRecDepth 100000 in
set_option maxHeartbeats 8000000 in
theorem alike_any (w0 w : World) (b1 b2 : Nat) (bs1 bs2 : List Nat) (e : Eng) (L : List HProp) (N M : Nat) (hE : ErrT w0) (hf : Fits N e) (hN : N ≤ 80000000) (hs : S w0 w (engP b1 bs1 e :: renP M [] b2 bs2 e :: L)) :
  Calls Tryz.prog 9 #[.pointer (some ⟨b1, 0, none⟩), .pointer (some ⟨b2, 0, none⟩)] w fun r w' => r = .returned (.bool true) ∧ S w0 w' (engP b1 bs1 e :: renP M [] b2 bs2 e :: L) := by
 obtain ⟨k, K, Qs, hp, h⟩ := hs.swap.ren_open
 obtain ⟨kv, hk⟩ := h.ex_elim
 have hs0 : S w0 w (engP b1 bs1 e :: refK 47 109 b2 kv K e.last :: rtabP 3 b2 2 Qs :: renO b2 bs2 k e :: L) := hk.conv (by simp only [all]; ac_rfl)
 have hok := hf.ok
 have hfew := hok.few
 have hKl := hp.1.few hok
 have hclose : ∀ W, S w0 W (engP b1 bs1 e :: refK 47 109 b2 kv K e.last :: rtabP 3 b2 2 Qs :: renO b2 bs2 k e :: L) → S w0 W (engP b1 bs1 e :: renP M [] b2 bs2 e :: L) := fun W h => by
  have h1 : S w0 W (refP 47 109 b2 K e.last :: rtabP 3 b2 2 Qs :: renO b2 bs2 k e :: engP b1 bs1 e :: L) := .ex_intro kv (h.conv (by simp only [all]; ac_rfl))
  exact (S.ren_shut hp h1).swap
 obtain ⟨ak, ck, hkv, hck1, hck2, _⟩ := (hs0.tail.sep_elim).swap.sl_val
 obtain ⟨at1, ct1, htv, hct1, hct2, _⟩ := hs0.tail.tail.tail.ren_c.2.row
 obtain ⟨ah, ch, hhv, hch1, hch2, _⟩ := hs0.tail.tail.tail.hj_open.sl_val
 have hq : ∀ W M', S w0 W (engP b1 bs1 e :: refK 47 109 b2 kv K e.last :: rtabP 3 b2 2 Qs :: renO b2 bs2 k e :: M') → W.cell? ⟨b2, 12, none⟩ = some (.slice at1 e.txs.length ct1) ∧ W.cell? ⟨b2, 1, none⟩ = some (.int .i64 e.last) ∧ W.cell? ⟨b2, 0, none⟩ = some (.slice ak K.length ck) ∧ W.cell? ⟨b2, 15, none⟩ = some (.slice ah e.hist.length ch) := fun W M' h => by
  have h1 := h.tail.tail.tail.ren_c.2
  have h2 := h.tail.sep_elim
  exact ⟨by rw [h1.txs, htv], h2.c0_cell 1 rfl, by rw [h2.c0_cell 0 rfl, hkv], by rw [h1.hist, hhv]⟩
 have htx : ∀ W, S w0 W (engP b1 bs1 e :: refK 47 109 b2 kv K e.last :: rtabP 3 b2 2 Qs :: renO b2 bs2 k e :: L) → Calls Tryz.prog 30 #[.pointer (some ⟨b1, 0, none⟩)] W fun r w' => r = .returned (.int .i64 e.txs.length) ∧ W = w' := fun W h => txs_eng h
 have hla : ∀ W, S w0 W (engP b1 bs1 e :: refK 47 109 b2 kv K e.last :: rtabP 3 b2 2 Qs :: renO b2 bs2 k e :: L) → Calls Tryz.prog 31 #[.pointer (some ⟨b1, 0, none⟩)] W fun r w' => r = .returned (.int .i64 e.last) ∧ W = w' := fun W h => last_eng h
 have hma : ∀ W, S w0 W (engP b1 bs1 e :: refK 47 109 b2 kv K e.last :: rtabP 3 b2 2 Qs :: renO b2 bs2 k e :: L) → Calls Tryz.prog 32 #[.pointer (some ⟨b1, 0, none⟩)] W fun r w' => r = .returned (.int .i64 K.length) ∧ W = w' := fun W h => by rw [← hp.1.many]; exact many_eng hok h
 have hal : ∀ W, S w0 W (engP b1 bs1 e :: refK 47 109 b2 kv K e.last :: rtabP 3 b2 2 Qs :: renO b2 bs2 k e :: L) → Calls Tryz.prog 34 #[.pointer (some ⟨b1, 0, none⟩)] W fun r w' => ∃ v, r = .returned v ∧ S w0 w' (sl 101 2 v e.allV.length (pcells e.allV) :: engP b1 bs1 e :: refK 47 109 b2 kv K e.last :: rtabP 3 b2 2 Qs :: renO b2 bs2 k e :: L) := fun W h => eall_any w0 W b1 bs1 e _ N [] hok h
 have hra : ∀ W v, S w0 W (sl 101 2 v e.allV.length (pcells e.allV) :: engP b1 bs1 e :: refK 47 109 b2 kv K e.last :: rtabP 3 b2 2 Qs :: renO b2 bs2 k e :: L) → Calls Tryz.prog 35 #[.pointer (some ⟨b2, 0, none⟩), .int .i64 e.last] W fun r w' => ∃ u, r = .returned u ∧ S w0 w' (sl 101 2 v e.allV.length (pcells e.allV) :: sl 101 2 u e.allV.length (pcells e.allV) :: engP b1 bs1 e :: refK 47 109 b2 kv K e.last :: rtabP 3 b2 2 Qs :: renO b2 bs2 k e :: L) := fun W v h => by
  have h1 := rall2 w0 W b2 kv K e.last e.last (sl 101 2 v e.allV.length (pcells e.allV) :: engP b1 bs1 e :: rtabP 3 b2 2 Qs :: renO b2 bs2 k e :: L) (h.conv (by simp only [all]; ac_rfl))
  rw [allV_out hp.1] at h1
  exact h1.mono fun r w' ⟨u, h2, h3⟩ => ⟨u, h2, h3.conv (by simp only [all]; ac_rfl)⟩
 have hhi : ∀ W v u, S w0 W (sl 101 2 v e.allV.length (pcells e.allV) :: sl 101 2 u e.allV.length (pcells e.allV) :: engP b1 bs1 e :: refK 47 109 b2 kv K e.last :: rtabP 3 b2 2 Qs :: renO b2 bs2 k e :: L) → Calls Tryz.prog 37 #[.pointer (some ⟨b1, 0, none⟩)] W fun r w' => ∃ x, r = .returned x ∧ S w0 w' (sl 129 4 x e.hist.length (fcells opc e.hist) :: engP b1 bs1 e :: refK 47 109 b2 kv K e.last :: rtabP 3 b2 2 Qs :: renO b2 bs2 k e :: L) := fun W v u h => ehist_any w0 W b1 bs1 e _ N [] hok (by omega) h.tail.tail
 have hop : ∀ W x, S w0 W (sl 129 4 x e.hist.length (fcells opc e.hist) :: engP b1 bs1 e :: refK 47 109 b2 kv K e.last :: rtabP 3 b2 2 Qs :: renO b2 bs2 k e :: L) → Calls Tryz.prog 36 #[x, .slice ah e.hist.length ch] W fun r w' => r = .returned (.bool true) ∧ S w0 w' (engP b1 bs1 e :: refK 47 109 b2 kv K e.last :: rtabP 3 b2 2 Qs :: renO b2 bs2 k e :: L) := fun W x h => by
  have h1 : S w0 W (sl 129 4 x e.hist.length (fcells opc e.hist) :: sl 129 4 k.hv e.hist.length (fcells opc e.hist) :: hjX b2 bs2 k e :: engP b1 bs1 e :: refK 47 109 b2 kv K e.last :: rtabP 3 b2 2 Qs :: L) := by
   have h2 : S w0 W (renO b2 bs2 k e :: sl 129 4 x e.hist.length (fcells opc e.hist) :: engP b1 bs1 e :: refK 47 109 b2 kv K e.last :: rtabP 3 b2 2 Qs :: L) := h.conv (by simp only [all]; ac_rfl)
   exact h2.hj_open.conv (by simp only [all]; ac_rfl)
  rw [← hhv]
  exact (eqOps_any w0 W x k.hv e.hist _ h1).mono fun r w' ⟨h2, h3⟩ => ⟨h2, (S.hj_shut h3.tail).conv (by simp only [all]; ac_rfl)⟩
 unfold maxLen at hck2 hct2 hch2
 have H0 := hid hs0; have HCLO := hid hclose; have HQ := hid hq; have HTX := hid htx; have HLA := hid hla; have HMA := hid hma; have HAL := hid hal; have HRA := hid hra; have HHI := hid hhi; have HOP := hid hop; have HF := hid hf; have HP := hid hp
 have q0 := hq _ _ hs0.drew
 clear hs h hk hs0 hclose hq htx hla hma hal hra hhi hop hf hok hp hkv htv hhv
 go_enter Tryz.func9, Tryz.ntmps9
 go_wp2_with fail
 go_region_held_law (fun W => W.cell? ⟨b2, 12, none⟩ = some (.slice at1 e.txs.length ct1) ∧ W.cell? ⟨b2, 1, none⟩ = some (.int .i64 e.last) ∧ W.cell? ⟨b2, 0, none⟩ = some (.slice ak K.length ck) ∧ W.cell? ⟨b2, 15, none⟩ = some (.slice ah e.hist.length ch)) (first | (with_reducible assumption) | (with_reducible exact q0) | (with_reducible exact q1) | (with_reducible exact q2) | (with_reducible exact q3) | (with_reducible exact q4) | (with_reducible exact q5))
  (first
   | (go_at_call 30; with_reducible refine (HTX.out _ H0.out.drew).mono ?_; rintro r w1 ⟨rfl, rfl⟩; skip)
   | (go_at_call 31; with_reducible refine (HLA.out _ H0.out.drew).mono ?_; rintro r w1 ⟨rfl, rfl⟩; skip)
   | (go_at_call 32; with_reducible refine (HMA.out _ H0.out.drew).mono ?_; rintro r w1 ⟨rfl, rfl⟩; skip)
   | (go_at_call 34; with_reducible refine (HAL.out _ H0.out.drew).mono ?_; rintro r w2 ⟨v, rfl, hs2⟩; have q1 := HQ.out _ _ hs2.tail; have G2 := hid hs2; clear hs2)
   | (go_at_call 35; with_reducible refine (HRA.out _ _ G2.out).mono ?_; rintro r w3 ⟨u, rfl, hs3⟩; have q2 := HQ.out _ _ hs3.tail.tail; have G3 := hid hs3; clear hs3)
   | (go_at_call 33; with_reducible refine (eqWrites_any w0 _ _ _ e.allV _ G3.out).mono ?_; rintro r w4 ⟨rfl, hs4⟩; have q3 := HQ.out _ _ hs4.tail.tail; have G4 := hid hs4; clear hs4)
   | (go_at_call 37; with_reducible refine (HHI.out _ _ _ G4.out).mono ?_; rintro r w5 ⟨x, rfl, hs5⟩; have q4 := HQ.out _ _ hs5.tail; have G5 := hid hs5; clear hs5)
   | (go_at_call 36; with_reducible refine (HOP.out _ _ G5.out).mono ?_; rintro r w6 ⟨rfl, hs6⟩; have q5 := HQ.out _ _ hs6; have G6 := hid hs6; clear hs6))
 have H6 := G6
 clear G2 G3 G4 G5 G6 q0 q1 q2 q3 q4 q5 H0 HTX HLA HMA HAL HRA HHI HOP
 have hof : ∀ W (n : Nat), S w0 W (engP b1 bs1 e :: refK 47 109 b2 kv K e.last :: rtabP 3 b2 2 Qs :: renO b2 bs2 k e :: L) → Calls Tryz.prog 38 #[.pointer (some ⟨b2, 0, none⟩), .int .i64 n, .bool false] W fun r w' => r = .returned (.tuple #[if e.err n false = 0 then ptr bs2 ((n : Int).toNat - 1) else .pointer none, .int .i64 (e.err n false)]) ∧ W = w' := fun W n h => rof_any w0 W b2 bs2 k e n false (engP b1 bs1 e :: refK 47 109 b2 kv K e.last :: rtabP 3 b2 2 Qs :: L) (h.conv (by simp only [all]; ac_rfl))
 have hst : ∀ W (n : Nat), S w0 W (engP b1 bs1 e :: refK 47 109 b2 kv K e.last :: rtabP 3 b2 2 Qs :: renO b2 bs2 k e :: L) → Calls Tryz.prog 39 #[.pointer (some ⟨b1, 0, none⟩), .int .i64 n] W fun r w' => r = .returned (.tuple #[.int .i64 (e.state n).1, .int .i64 (e.state n).2.1, errV (e.state n).2.2]) ∧ S w0 w' (engP b1 bs1 e :: refK 47 109 b2 kv K e.last :: rtabP 3 b2 2 Qs :: renO b2 bs2 k e :: L) := fun W n h => state_eng n h
 have hrw : ∀ W (n : Nat), S w0 W (engP b1 bs1 e :: refK 47 109 b2 kv K e.last :: rtabP 3 b2 2 Qs :: renO b2 bs2 k e :: L) → Calls Tryz.prog 40 #[.pointer (some ⟨b2, 0, none⟩), .int .i64 n] W fun r w' => ∃ v, r = .returned (.tuple #[v, .int .i64 (e.writes n).2]) ∧ S w0 w' (sl 101 2 v (e.writes n).1.length (pcells (e.writes n).1) :: engP b1 bs1 e :: refK 47 109 b2 kv K e.last :: rtabP 3 b2 2 Qs :: renO b2 bs2 k e :: L) := fun W n h => by
  have h1 := rwrites_any w0 W b2 bs2 k e n (engP b1 bs1 e :: refK 47 109 b2 kv K e.last :: rtabP 3 b2 2 Qs :: L) N [] HF.out.ok (h.conv (by simp only [all]; ac_rfl))
  exact h1.mono fun r w' ⟨v, h2, h3⟩ => ⟨v, h2, h3.conv (by simp only [all]; ac_rfl)⟩
 have hxw : ∀ W (n : Nat) v, S w0 W (sl 101 2 v (e.writes n).1.length (pcells (e.writes n).1) :: engP b1 bs1 e :: refK 47 109 b2 kv K e.last :: rtabP 3 b2 2 Qs :: renO b2 bs2 k e :: L) → Calls Tryz.prog 41 #[.pointer (some ⟨b1, 0, none⟩), .int .i64 n] W fun r w' => ∃ u, r = .returned (.tuple #[u, errV (e.writes n).2]) ∧ S w0 w' (sl 101 2 u (e.writes n).1.length (pcells (e.writes n).1) :: sl 101 2 v (e.writes n).1.length (pcells (e.writes n).1) :: engP b1 bs1 e :: refK 47 109 b2 kv K e.last :: rtabP 3 b2 2 Qs :: renO b2 bs2 k e :: L) := fun W n v h => by
  have h1 := ewrites_any w0 W b1 bs1 e n (sl 101 2 v (e.writes n).1.length (pcells (e.writes n).1) :: refK 47 109 b2 kv K e.last :: rtabP 3 b2 2 Qs :: renO b2 bs2 k e :: L) N [] HF.out.ok (h.conv (by simp only [all]; ac_rfl))
  exact h1.mono fun r w' ⟨v, h2, h3⟩ => ⟨v, h2, h3.conv (by simp only [all]; ac_rfl)⟩
 have hxs : ∀ W (n : Nat) X Y, S w0 W (X :: Y :: engP b1 bs1 e :: refK 47 109 b2 kv K e.last :: rtabP 3 b2 2 Qs :: renO b2 bs2 k e :: L) → Calls Tryz.prog 42 #[.pointer (some ⟨b1, 0, none⟩), .int .i64 n] W fun r w' => r = .returned (.int .i64 (e.waits n)) ∧ W = w' := fun W n X Y h => waits_eng n h.tail.tail
 have hrs : ∀ W (n : Nat) X Y, S w0 W (X :: Y :: engP b1 bs1 e :: refK 47 109 b2 kv K e.last :: rtabP 3 b2 2 Qs :: renO b2 bs2 k e :: L) → Calls Tryz.prog 43 #[.pointer (some ⟨b2, 0, none⟩), .int .i64 n] W fun r w' => r = .returned (.int .i64 (e.waits n)) ∧ S w0 w' (engP b1 bs1 e :: refK 47 109 b2 kv K e.last :: rtabP 3 b2 2 Qs :: renO b2 bs2 k e :: L) := fun W n X Y h => by
  have h1 := rwaitsE_any w0 W b2 e Qs n (engP b1 bs1 e :: refK 47 109 b2 kv K e.last :: renO b2 bs2 k e :: L) HP.out.2.1 (rtab_few HF.out.ok HP.out.2.1) (h.tail.tail.conv (by simp only [all]; ac_rfl))
  exact h1.mono fun r w' ⟨h2, h3⟩ => ⟨h2, h3.conv (by simp only [all]; ac_rfl)⟩
 have hcy : ∀ W i, i < e.txs.length → S w0 W (engP b1 bs1 e :: refK 47 109 b2 kv K e.last :: rtabP 3 b2 2 Qs :: renO b2 bs2 k e :: L) → W.cell? ⟨blkOf bs2 i, 1, none⟩ = some (.int .i64 (e.tx i).state) ∧ W.cell? ⟨blkOf bs2 i, 2, none⟩ = some (.int .i64 (e.tx i).why) := fun W i hi h => ⟨(h.tail.tail.tail.ren_txc hi).2.state, (h.tail.tail.tail.ren_txc hi).2.why⟩
 have HOF := hid hof; have HST := hid hst; have HRW := hid hrw; have HXW := hid hxw; have HXS := hid hxs; have HRS := hid hrs; have HCY := hid hcy
 clear hof hst hrw hxw hxs hrs hcy
 go_wp2_with fail
 go_loopw [5] (fun c wr => ∃ n : Nat, n ≤ e.txs.length + 2 ∧ c = .int .i64 n ∧ S w0 wr (engP b1 bs1 e :: refK 47 109 b2 kv K e.last :: rtabP 3 b2 2 Qs :: renO b2 bs2 k e :: L)) (fun c _ => e.txs.length + 2 - (intOf c).toNat)
 case atStart => exact ⟨0, by omega, rfl, H6.out⟩
 case round =>
  rename World => wr
  obtain ⟨n, hn, rfl, hsr⟩ := hrel
  clear H6
  obtain ⟨c12, _, _, _⟩ := HQ.out _ _ hsr
  by_cases hlt : n ≤ e.txs.length + 1
  ·have hlti : (n : Int) ≤ (e.txs.length : Int) + 1 := by omega
   have H1 := hid hsr
   clear hsr
   by_cases hskip : 12 < n ∧ (n : Int) < (e.txs.length : Int) - 8
   ·have hs1 : (12 : Int) < (n : Int) := by omega
    have hs2 := hskip.2
    clear hskip
    go_wp2_with fail
    go_roundw
    case rel => exact ⟨n + 1, by omega, by go_num, H1.out⟩
    case measure => simp [intOf]; omega
   go_upto_region 6 with fail
   go_cut [90] (fun c wx => c = .bool false ∧ wr = wx)
   case first =>
    by_cases h12 : 12 < n
    ·have hs1 : (12 : Int) < (n : Int) := by omega
     have hs2 : ¬ (n : Int) < (e.txs.length : Int) - 8 := fun h => hskip ⟨h12, h⟩
     clear hskip h12
     go_wp2_with fail
     go_meet
     exact ⟨rfl, rfl⟩
    ·have hs1 : ¬ (12 : Int) < (n : Int) := by omega
     clear hskip h12
     go_wp2_with fail
     go_meet
     exact ⟨rfl, rfl⟩
   case rest =>
   obtain ⟨rfl, rfl⟩ := hcut
   clear hskip c12
   have hnb : (n : Int) ≤ 9223372036854775806 := by omega
   have hO := HOF.out wr n H1.out
   have hS := HST.out wr n H1.out
   rcases e.err_cases n false with ⟨h1, h2⟩ | ⟨i, hni, hi, ⟨h1, h2, h3⟩ | ⟨h1, h2⟩⟩
   ·have hs0 : e.state n = (0, 0, 7) := by unfold Eng.state; rw [if_pos (by rw [h1]; decide), h1]
    have hw0 : e.writes n = ([], 7) := by unfold Eng.writes; rw [if_pos (by rw [h1]; decide), h1]
    rw [h1, if_neg (by decide)] at hO
    rw [hs0] at hS
    have HRW2 := hid (fun W h => HRW.out W n h); have HXW2 := hid (fun W v h => HXW.out W n v h); have HXS2 := hid (fun W X Y h => HXS.out W n X Y h); have HRS2 := hid (fun W X Y h => HRS.out W n X Y h)
    rw [hw0] at HRW2 HXW2
    generalize e.waits n = wt at HXS2 HRS2
    have HO := hid hO; have HS2 := hid hS
    clear h1 h2 hs0 hw0 hO hS
    go_wp2_with fail
    with_reducible refine HO.out.mono ?_
    rintro r w1 ⟨rfl, rfl⟩
    go_wp2_with fail
    with_reducible refine HS2.out.mono ?_
    rintro r w2 ⟨rfl, hs2⟩
    have H2 := hid hs2
    clear hs2 HO HS2 H1
    go_wp2_with fail
    with_reducible refine (HRW2.out _ H2.out).mono ?_
    rintro r w3 ⟨v3, rfl, hs3⟩
    have H3 := hid hs3
    clear hs3 H2
    go_wp2_with fail
    with_reducible refine (HXW2.out _ _ H3.out).mono ?_
    rintro r w4 ⟨v4, rfl, hs4⟩
    have H4 := hid hs4
    clear hs4 H3
    go_wp2_with fail
    with_reducible refine (bareV 7 w0 _ _ hE H4.out).mono ?_
    rintro r w5 ⟨rfl, hs5⟩
    have H5 := hid hs5
    clear hs5 H4
    go_wp2_with (first
     | (go_at_call 17; with_reducible refine (bareV 7 w0 _ _ hE H5.out).mono ?_; rintro r w6 ⟨rfl, hs6⟩; have H6 := hid hs6; clear hs6)
     | (go_at_call 33; with_reducible refine (eqWrites_any w0 _ _ _ [] _ H6.out).mono ?_; rintro r w7 ⟨rfl, hs7⟩; have H7 := hid hs7; clear hs7)
     | (go_at_call 42; with_reducible refine (HXS2.out _ _ _ H7.out).mono ?_; rintro r w8 ⟨rfl, rfl⟩; skip)
     | (go_at_call 43; with_reducible refine (HRS2.out _ _ _ H7.out).mono ?_; rintro r w9 ⟨rfl, hs9⟩; have H9 := hid hs9; clear hs9))
    go_roundw
    case rel => exact ⟨n + 1, by omega, by go_num, H9.out⟩
    case measure => simp [intOf]; omega
   ·cases h2
   ·have hi2 : (n : Int).toNat - 1 = i := by omega
    have hs0 : e.state n = ((e.tx i).state, (e.tx i).why, 0) := by unfold Eng.state; rw [if_neg (by rw [h1]; decide), hi2]
    have hw0 : (e.writes n).2 = 0 := by unfold Eng.writes; rw [if_neg (by rw [h1]; decide)]
    rw [h1, if_pos rfl, hi2] at hO
    unfold ptr at hO
    rw [hs0] at hS
    have HRW2 := hid (fun W h => HRW.out W n h); have HXW2 := hid (fun W v h => HXW.out W n v h); have HXS2 := hid (fun W X Y h => HXS.out W n X Y h); have HRS2 := hid (fun W X Y h => HRS.out W n X Y h)
    have HCY2 := hid (fun W h => HCY.out W i hi h)
    generalize e.waits n = wt at HXS2 HRS2
    generalize e.writes n = wl at HRW2 HXW2 hw0
    obtain ⟨wl, wx⟩ := wl
    simp only at hw0
    subst hw0
    generalize (e.tx i).state = st at hS HCY2
    generalize (e.tx i).why = wy at hS HCY2
    have HO := hid hO; have HS2 := hid hS
    clear h1 h2 hs0 hO hS hi2 hni hi
    go_wp2_with fail
    with_reducible refine HO.out.mono ?_
    rintro r w1 ⟨rfl, rfl⟩
    go_wp2_with fail
    with_reducible refine HS2.out.mono ?_
    rintro r w2 ⟨rfl, hs2⟩
    have H2 := hid hs2
    clear hs2 HO HS2 H1
    go_wp2_with fail
    with_reducible refine (HRW2.out _ H2.out).mono ?_
    rintro r w3 ⟨v3, rfl, hs3⟩
    have H3 := hid hs3
    clear hs3 H2
    go_wp2_with fail
    with_reducible refine (HXW2.out _ _ H3.out).mono ?_
    rintro r w4 ⟨v4, rfl, hs4⟩
    have H4 := hid hs4
    clear hs4 H3
    go_wp2_with fail
    with_reducible refine (bareV 0 w0 _ _ hE H4.out).mono ?_
    rintro r w5 ⟨rfl, hs5⟩
    have H5 := hid hs5
    clear hs5 H4
    go_wp2_with (first
     | (go_at_call 17; with_reducible refine (bareV 0 w0 _ _ hE H5.out).mono ?_; rintro r w6 ⟨rfl, hs6⟩; have H6 := hid hs6; clear hs6)
     | (go_at_call 33; with_reducible refine (eqWrites_any w0 _ _ _ wl _ H6.out).mono ?_; rintro r w7 ⟨rfl, hs7⟩; have H7 := hid hs7; clear hs7)
     | (go_at_call 42; with_reducible refine (HXS2.out _ _ _ H7.out).mono ?_; rintro r w8 ⟨rfl, rfl⟩; skip)
     | (go_at_call 43; with_reducible refine (HRS2.out _ _ _ H7.out).mono ?_; rintro r w9 ⟨rfl, hs9⟩; obtain ⟨d1, d2⟩ := HCY2.out _ hs9; have H9 := hid hs9; clear hs9))
    go_roundw
    case rel => exact ⟨n + 1, by omega, by go_num, H9.out⟩
    case measure => simp [intOf]; omega
  ·have hlti : ¬ (n : Int) ≤ (e.txs.length : Int) + 1 := by omega
   have H1 := hid hsr
   clear hsr
   go_wp2_with fail
   go_ret
   exact ⟨rfl, HCLO.out _ H1.out⟩
end Go.Proofs.YtmfngjclccehaaaGreatDoor
namespace Go.Proofs.YtmfngjclccehaaaGreatDoor
open Go Go.RowKit Go.Sep
def cntN (a : Int) : Nat := (IntKind.u64.wrap a % 201).toNat
theorem cntN_lt (a : Int) : cntN a < 201 := by
 unfold cntN
 have h1 := Int.emod_lt_of_pos (IntKind.u64.wrap a) (show (0 : Int) < 201 by omega)
 have h2 := Int.emod_nonneg (IntKind.u64.wrap a) (show (201 : Int) ≠ 0 by omega)
 omega
theorem cntN_eq (a : Int) : wrap64 ((IntKind.u64.wrap a).tmod 201) = (cntN a : Int) := by
 have h1 : 0 ≤ IntKind.u64.wrap a := by
  simp [IntKind.wrap, IntKind.signed, IntKind.bits]; omega
 have h2 := Int.emod_lt_of_pos (IntKind.u64.wrap a) (show (0 : Int) < 201 by omega)
 have h3 := Int.emod_nonneg (IntKind.u64.wrap a) (show (201 : Int) ≠ 0 by omega)
 rw [Int.tmod_eq_emod_of_nonneg h1, IntWalk.wrap64_in _ ⟨by omega, by omega⟩]; unfold cntN; omega
def Pair (N M : Nat) (w0 w : World) (b1 b2 : Nat) : Prop := ∃ e bs1 bs2, Fits N e ∧ S w0 w (engP b1 bs1 e :: renP M [] b2 bs2 e :: [])
theorem Pair.does {N M : Nat} {w0 w : World} {b1 b2 : Nat} (h : Pair N M w0 w b1 b2) (hE : ErrT w0) (hN : N ≤ 80000000) (hM : M + 1 ≤ 1000000) (a : Act4) :
  Calls Tryz.prog 8 #[.pointer (some ⟨b1, 0, none⟩), .pointer (some ⟨b2, 0, none⟩), .agg #[.int .i64 a.what, .int .i64 a.tx, .int .i64 a.key, .int .i64 a.value]] w fun r w' => r = .returned (.bool true) ∧ Pair (N + 1000) (M + 1) w0 w' b1 b2 := by
 obtain ⟨e, bs1, bs2, hf, hs⟩ := h
 exact (does_any w0 w b1 b2 bs1 bs2 e a [] N M hE hf hN hM hs).mono fun r w' ⟨h1, b, c, h2⟩ => ⟨h1, e.act a, b, c, hf.act a, h2⟩
theorem Pair.alike {N M : Nat} {w0 w : World} {b1 b2 : Nat} (h : Pair N M w0 w b1 b2) (hE : ErrT w0) (hN : N ≤ 80000000) :
  Calls Tryz.prog 9 #[.pointer (some ⟨b1, 0, none⟩), .pointer (some ⟨b2, 0, none⟩)] w fun r w' => r = .returned (.bool true) ∧ Pair N M w0 w' b1 b2 := by
 obtain ⟨e, bs1, bs2, hf, hs⟩ := h
 exact (alike_any w0 w b1 b2 bs1 bs2 e [] N M hE hf hN hs).mono fun r w' ⟨h1, h2⟩ => ⟨h1, e, bs1, bs2, hf, h2⟩
theorem Pair.mono {N M N' M' : Nat} {w0 w : World} {b1 b2 : Nat} (h : Pair N M w0 w b1 b2) (hN : N ≤ N') (hM : M ≤ M') : Pair N' M' w0 w b1 b2 := by
 obtain ⟨e, bs1, bs2, hf, hs⟩ := h
 exact ⟨e, bs1, bs2, hf.mono hN, (hs.swap.ren_mono hM).swap⟩
theorem Pair.below {N M : Nat} {w0 w : World} {b1 b2 : Nat} (h : Pair N M w0 w b1 b2) : Below w0.heap.size w0 w := by
 obtain ⟨e, bs1, bs2, hf, hs⟩ := h
 exact hs.1
set_option linter.unusedSimpArgs false in
set_option maxRecDepth 40000 in
set_option maxHeartbeats 8000000 in
theorem eplays_any (w0 : World) (at_ many : Int) (v1 v2 : Value) (st : Vers) (ls : List Act4) (hE : ErrT w0) (h1 : ArgPairs w0 v1 st) (h2 : ArgF acts4 4 w0 v2 ls) :
  Calls Tryz.prog 3 #[.int .i64 at_, v1, v2, .int .i64 many] w0 fun e w' => e = .returned (.bool true) ∧ Below w0.heap.size w0 w' := by
 have hrd := h1.rdk
 obtain ⟨ai, ci, rfl, hlc, hlc2, _⟩ := h1
 obtain ⟨a, cap, rfl, hcap, hcap2, hrow⟩ := h2
 unfold maxLen at hcap2 hlc2
 have hs0 := S.start w0
 by_cases h100 : 100 < ls.length
 ·have hi : (100 : Int) < (ls.length : Int) := by omega
  clear hrow hs0 hrd h100
  go_enter Tryz.func3, Tryz.ntmps3
  go_wp2_with fail
  go_ret
  exact ⟨rfl, Below.refl _ _⟩
 by_cases h20 : 20 < st.length
 ·have hi : (20 : Int) < (st.length : Int) := by omega
  have hi2 : ¬ (100 : Int) < (ls.length : Int) := by omega
  clear hrow hs0 hrd h100 h20
  go_enter Tryz.func3, Tryz.ntmps3
  go_wp2_with fail
  go_ret
  exact ⟨rfl, Below.refl _ _⟩
 have h100' : ls.length ≤ 100 := by omega
 have h20' : st.length ≤ 20 := by omega
 have hi2 : ¬ (100 : Int) < (ls.length : Int) := by omega
 have hi3 : ¬ (20 : Int) < (st.length : Int) := by omega
 have hcn := cntN_eq many
 have hcl := cntN_lt many
 have HR := hid hrow; have HRD := hid hrd; have HS := hid hs0; have HCN := hid hcn
 clear hrow h100 h20 hs0 hrd hcn
 by_cases hok : (at_ = 0 ∧ st = []) ∨ instOk 0 at_ st = true
 ·have hc1 : Calls Tryz.prog 4 #[.int .i64 at_, .slice ai st.length ci] w0 fun r w' => ∃ b, r = .returned (.tuple #[.pointer (some ⟨b, 0, none⟩), .agg #[.int .i64 0, .int .i64 (-1)]]) ∧ S w0 w' (renP 0 [] b [] (Eng.over at_ st) :: []) := by
   rcases hok with ⟨rfl, rfl⟩ | hk
   ·exact rover_zero w0 w0 ai ci [] HS.out
   ·exact rover_ok w0 w0 at_ ai ci st [] HS.out (fun M => HRD.out M) hk
  have hc2 : ∀ W L, S w0 W L → Calls Tryz.prog 5 #[.int .i64 at_, .slice ai st.length ci] W fun r w' => ∃ b, r = .returned (.tuple #[.pointer (some ⟨b, 0, none⟩), .nilIface]) ∧ S w0 w' (engP b [] (Eng.over at_ st) :: L) := fun W L h => by
   rcases hok with ⟨rfl, rfl⟩ | hk
   ·exact eover_zero w0 W ai ci L h
   ·exact eover_ok w0 W at_ ai ci st L h (fun M => HRD.out M) hk (by omega)
  have hfit : Fits 10 (Eng.over at_ st) := ⟨OkT.over at_ st, Times.overs at_ st, Whys.overs at_ st⟩
  have HC1 := hid hc1; have HC2 := hid hc2; have HFIT := hid hfit
  clear hc1 hc2 hok HRD HS hfit
  go_enter Tryz.func3, Tryz.ntmps3
  go_wp2_with fail
  with_reducible refine HC1.out.mono ?_
  rintro r w1 ⟨b2, rfl, hs1⟩
  have H2 := hid (hs1.alloc #[.int .i64 0, .int .i64 (-1)] 27)
  clear hs1 HC1
  go_wp2_with fail
  with_reducible refine (HC2.out _ _ H2.out).mono ?_
  rintro r w2 ⟨b1, rfl, hs3⟩
  have y0 := hs3.tail.blk_cell 0 rfl
  have H3 := hid hs3
  clear hs3 H2 HC2
  go_wp2_with fail
  with_reducible refine (new_any w0 w2 _ H3.out).mono ?_
  rintro r w3 ⟨rfl, hs4⟩
  have hp : Pair 10 0 w0 w3 b1 b2 := ⟨Eng.over at_ st, [], [], HFIT.out, (hs4.tail.conv (M := blk w1.heap.size 27 [.int .i64 0, .int .i64 (-1)] :: engP b1 [] (Eng.over at_ st) :: renP 0 [] b2 [] (Eng.over at_ st) :: []) (by simp only [all]; ac_rfl)).tail⟩
  have HP := hid hp
  clear hs4 hp H3 HFIT y0
  go_wp2_with fail
  go_loopw [13] (fun c wr => ∃ i : Nat, i ≤ cntN many ∧ c = .int .i64 i ∧ Hid (Pair (10 + 2000 * i) (2 * i) w0 wr b1 b2)) (fun c _ => cntN many - (intOf c).toNat)
  case atStart => exact ⟨0, Nat.zero_le _, rfl, HP⟩
  case round =>
   rename World => wr
   obtain ⟨i, hi, rfl, hpr⟩ := hrel
   clear HP
   have hcn := HCN.out
   by_cases hlt : i < cntN many
   ·have hlti : (i : Int) < (cntN many : Int) := by omega
    have hd1 := hpr.out.does hE (by omega) (by omega) ⟨0, 0, 0, 0⟩
    have hd2 := fun W (h : Pair (10 + 2000 * i + 1000) (2 * i + 1) w0 W b1 b2) => h.does hE (by omega) (by omega) ⟨4, (i : Int) + 1, 0, 0⟩
    have HD1 := hid hd1; have HD2 := hid hd2
    clear hd1 hd2 hpr HR
    go_wp2_with (first
     | (go_at_call 8; with_reducible refine HD1.out.mono ?_; rintro r w4 ⟨rfl, hp4⟩; have H4 := hid hp4; clear hp4)
     | (go_at_call 8; with_reducible refine (HD2.out _ H4.out).mono ?_; rintro r w5 ⟨rfl, hp5⟩; have H5 := hid hp5; clear hp5))
    go_roundw
    case rel => exact ⟨i + 1, by omega, by go_num, hid (by rw [show 10 + 2000 * (i + 1) = 10 + 2000 * i + 1000 + 1000 by omega, show 2 * (i + 1) = 2 * i + 1 + 1 by omega]; exact H5.out)⟩
    case measure => simp [intOf]; omega
   ·have hlti : ¬ (i : Int) < (cntN many : Int) := by omega
    have HP2 := hid (hpr.out.mono (N' := 500000) (M' := 500) (by omega) (by omega))
    clear hpr
    go_wp2_with fail
    clear hcn hlti
    go_loopw [14] (fun c wr => ∃ j : Nat, j ≤ ls.length ∧ c = .int .i64 j ∧ Hid (Pair (500000 + 1000 * j) (500 + j) w0 wr b1 b2)) (fun c _ => ls.length - (intOf c).toNat)
    case atStart => exact ⟨0, Nat.zero_le _, rfl, HP2⟩
    case round =>
     rename World => wq
     obtain ⟨j, hj, rfl, hpq⟩ := hrel
     clear HP2
     by_cases hlt2 : j < ls.length
     ·have hx : ls[j]? = some ls[j] := by simp [hlt2]
      generalize ls[j] = p at hx
      obtain ⟨bb, oo, rfl, hbb, hcc⟩ := HR.out j p hx
      have hbl := hpq.out.below
      have c0 := (hbl.cell (p := ⟨bb, oo + j * 4 + 0, none⟩) hbb).trans (hcc 0 _ rfl)
      have c1 := (hbl.cell (p := ⟨bb, oo + j * 4 + 1, none⟩) hbb).trans (hcc 1 _ rfl)
      have c2 := (hbl.cell (p := ⟨bb, oo + j * 4 + 2, none⟩) hbb).trans (hcc 2 _ rfl)
      have c3 := (hbl.cell (p := ⟨bb, oo + j * 4 + 3, none⟩) hbb).trans (hcc 3 _ rfl)
      rw [Nat.add_zero] at c0
      have hd := hpq.out.does hE (by omega) (by omega) p
      have hal := fun W (h : Pair (500000 + 1000 * j + 1000) (500 + j + 1) w0 W b1 b2) => h.alike hE (by omega)
      have HD := hid hd; have HAL := hid hal
      clear hcc hx hbl hpq hd hal
      go_wp2_with (first
       | (go_at_call 8; with_reducible refine HD.out.mono ?_; rintro r w4 ⟨rfl, hp4⟩; have H4 := hid hp4; clear hp4)
       | (go_at_call 9; with_reducible refine (HAL.out _ H4.out).mono ?_; rintro r w5 ⟨rfl, hp5⟩; have H5 := hid hp5; clear hp5))
      go_roundw
      case rel => exact ⟨j + 1, by omega, by go_num, hid (by rw [show 500000 + 1000 * (j + 1) = 500000 + 1000 * j + 1000 by omega]; exact H5.out)⟩
      case measure => simp [intOf]; omega
     ·have hal := hpq.out.alike hE (by omega)
      have HAL := hid hal
      clear hpq hal
      go_wp2_with fail
      with_reducible refine HAL.out.mono ?_
      rintro r w6 ⟨rfl, hp6⟩
      have H6 := hid hp6
      clear hp6 HAL
      go_wp2_with fail
      go_ret
      exact ⟨rfl, H6.out.below⟩
 ·have h00 : ¬ (at_ = 0 ∧ st = []) := fun h => hok (.inl h)
  have hk : ¬ instOk 0 at_ st = true := fun h => hok (.inr h)
  have hc1 := rover_no w0 w0 at_ ai ci st [] HS.out (fun M => HRD.out M) h00 hk
  have hc2 := fun W L h => eover_no w0 W at_ ai ci st L h (fun M => HRD.out M) h00 hk (by omega)
  have hne := instErr_some hk
  have hie := instErr_is 0 at_ st
  generalize instErr 0 at_ st = er at *
  have hcis := fun u W L h => is_any er u (Err.errno er) (Err.place er) w0 W L hE h
  rw [hie] at hcis
  have hb : (Err.errno er != 0) = true := by simpa using hne
  generalize Err.errno er = e1 at *
  generalize Err.place er = e2 at *
  have HC1 := hid hc1; have HC2 := hid hc2; have HIS := hid hcis
  clear hc1 hc2 hne hie hcis h00 hk hok HRD HR HCN
  go_enter Tryz.func3, Tryz.ntmps3
  go_wp2_with fail
  with_reducible refine HC1.out.mono ?_
  rintro r w1 ⟨rfl, hs1⟩
  have hs2 := hs1.alloc #[.int .i64 e1, .int .i64 e2] 27
  have H2 := hid hs2
  clear hs1 hs2 HC1
  go_wp2_with fail
  with_reducible refine (HC2.out _ _ H2.out).mono ?_
  rintro r w2 ⟨u, rfl, hs3⟩
  have y0 := hs3.tail.blk_cell 0 rfl
  have y1 := hs3.tail.blk_cell 1 rfl
  have H3 := hid hs3
  clear hs3 H2 HC2
  go_wp2_with (go_at_call 6; with_reducible refine (HIS.out _ _ _ H3.out).mono ?_; rintro r w3 ⟨rfl, hs4⟩; have H4 := hid hs4; clear hs4)
  go_ret
  exact ⟨rfl, H4.out.1⟩
end Go.Proofs.YtmfngjclccehaaaGreatDoor
