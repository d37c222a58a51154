/- Regions that append one element to each of several slices, in whatever order. No program in sight. (Printed by mkreg3.py.) -/
import Derived.Test.YtcbokjocahnlcaaGreatDoorSt0
import Derived.Test.YtcbokjocahnlcaaGreatDoorSt4
import Derived.Test.YtcbokjocahnlcaaGreatDoorSt3
import Derived.Great.BuildSlice
namespace Go.Sep
open Go Go.RowKit
structure At (a : Act) (i : Nat) (v : Value) : Prop where
 lt : i < a.tmps.size
 ev : a.eval (.tmp i) = v
theorem Act.put_size (a : Act) (i : Nat) (v : Value) : (a.put (some i) v).tmps.size = a.tmps.size := by simp [Act.put]
theorem At.new {a : Act} {i : Nat} {v : Value} (h : i < a.tmps.size) : At (a.put (some i) v) i v := ⟨by rw [Act.put_size]; exact h, by simp [Act.put, Act.eval, h]⟩
theorem At.keep {a : Act} {i j : Nat} {u v : Value} (hij : i ≠ j) (h : At a i v) : At (a.put (some j) u) i v := ⟨by rw [Act.put_size]; exact h.lt, by
 have := h.ev
 simp only [Act.put, Act.eval] at this ⊢
 rw [← this]
 simp [Array.getD_eq_getD_getElem?, Ne.symm hij]⟩
theorem Act.put_swap (a : Act) (i j : Nat) (u v : Value) (h : i ≠ j) : (a.put (some i) u).put (some j) v = (a.put (some j) v).put (some i) u := by
 simp only [Act.put]
 rw [Array.setIfInBounds_comm _ _ h]
theorem one_val {v : Value} (h : v.oneCell' = true) : ∀ u ∈ [v], u.oneCell' = true := by intro u hu; rw [List.mem_singleton.1 hu]; exact h
section
variable {P : Program} {w w0 : World} {L : List HProp}
theorem step_makeMapU {ops : Array Oper} {o : Oper} {a : Act} {K : Act → World → Prop} {Q : Exit → Act → World → Prop} {E : Prop} (hg : o.guard = none) (t : TypeId) (hop : o.op = .makeMap t none) (hW : S w0 w L)
  (h : ∀ m w', S w0 w' (mp Sep.encI (fun _ => True) m [] :: L) → K (a.put o.dst (.map (some m))) w') : if Region.wanted o (yielded ops a.tmps) = true then Oper.wp P o a w K Q else E := by
 rw [if_pos (by simp [Region.wanted, hg])]
 unfold Oper.wp execOp
 simp only [hop, Option.map_none, Sem.run_bind, run_makeMap, Result.andThen_ok, Sem.run_pure]
 exact h _ _ hW.made
theorem step_buildU {ops : Array Oper} {o : Oper} {a : Act} {K : Act → World → Prop} {Q : Exit → Act → World → Prop} {E : Prop} (hg : o.guard = none) (t e : TypeId) (x : Operand) (hop : o.op = .buildSlice t 1 #[(0, x)])
  (i : TypeInfo) (z : Value) (ht : P.underlying t = some (.slice e)) (hi : P.info? e = some i) (hz : i.zero = some z) (hsize : i.size = 1) {y : Value} (hx : a.eval x = y) (h1 : y.oneCell' = true) (hW : S w0 w L)
  (h : ∀ b w', S w0 w' (sl e 1 (.slice (some ⟨b, 0, none⟩) 1 1) 1 [y] :: L) → K (a.put o.dst (.slice (some ⟨b, 0, none⟩) 1 1)) w') : if Region.wanted o (yielded ops a.tmps) = true then Oper.wp P o a w K Q else E := by
 rw [if_pos (by simp [Region.wanted, hg])]
 refine wp_buildSlice t e 1 #[(0, x)] hop #[y] i z ht hi hz (by rw [hsize]; decide) (by rw [hsize]; decide) ?_ (h _ _ (hW.alloc_slU [y] 1 rfl (by unfold maxLen; omega)))
 rw [hsize]
 simp only [List.map_toArray, List.map_cons, List.map_nil, hx]
 have hyc : y.cells = #[y] := by cases y <;> first | rfl | cases h1
 simp [Instr.fill, hyc]
 apply Array.ext
 ·simp
 ·intro i h1 h2
  have h3 : i = 0 := by simpa using h2
  subst h3
  simp
end
set_option linter.unusedSimpArgs false in
set_option maxHeartbeats 4000000 in
theorem region_a {P : Program} {ops : Array Oper} {Q : Exit → Act → World → Prop} {Sf : World → Prop} {u k n : Nat} {F : Act} {l : Array Bool} {w0 : World} {X R : HProp}
  (hkeep : ∀ w M, S w0 w (X :: M) → Sf w) (hn : n + 1 ≤ 1000000000000)
  (t1 e1 : TypeId) (i1 : TypeInfo) (z1 : Value) (by1 : Nat) (ht1 : P.underlying t1 = some (.slice e1)) (hi1 : P.info? e1 = some i1) (hz1 : i1.zero = some z1) (hs1 : i1.size = 1) (hy1 : i1.bytes = by1) (hc1 : z1.cells.size = 1) (hb1 : by1 ≤ 100)
  (a1 : Option Addr) (c1 : Nat) (xs1 : List Value) (y1 : Value) (ho1 : y1.oneCell' = true)
  (A1 : At F 82 (.slice a1 n c1)) (Y1 : At F 83 y1)
  (t2 e2 : TypeId) (i2 : TypeInfo) (z2 : Value) (by2 : Nat) (ht2 : P.underlying t2 = some (.slice e2)) (hi2 : P.info? e2 = some i2) (hz2 : i2.zero = some z2) (hs2 : i2.size = 1) (hy2 : i2.bytes = by2) (hc2 : z2.cells.size = 1) (hb2 : by2 ≤ 100)
  (a2 : Option Addr) (c2 : Nat) (xs2 : List Value) (y2 : Value) (ho2 : y2.oneCell' = true)
  (A2 : At F 89 (.slice a2 n c2)) (Y2 : At F 90 y2)
  (t3 e3 : TypeId) (i3 : TypeInfo) (z3 : Value) (by3 : Nat) (ht3 : P.underlying t3 = some (.slice e3)) (hi3 : P.info? e3 = some i3) (hz3 : i3.zero = some z3) (hs3 : i3.size = 1) (hy3 : i3.bytes = by3) (hc3 : z3.cells.size = 1) (hb3 : by3 ≤ 100)
  (a3 : Option Addr) (c3 : Nat) (xs3 : List Value)
  (A3 : At F 96 (.slice a3 n c3))
  (o8 : Oper) (h8 : ops[8]? = some o8) (g8 : o8.guard = none) (p8 : o8.op = .buildSlice t1 1 #[(0, .tmp 83)]) (d8 : o8.dst = some 84) (s8 : 84 < F.tmps.size)
  (o9 : Oper) (h9 : ops[9]? = some o9) (g9 : o9.guard = none) (p9 : o9.op = .call { callee := .builtin .append, args := #[.tmp 82, .tmp 84], argTypes := #[t1, t1] }) (d9 : o9.dst = some 85)
  (o15 : Oper) (h15 : ops[15]? = some o15) (g15 : o15.guard = none) (p15 : o15.op = .buildSlice t2 1 #[(0, .tmp 90)]) (d15 : o15.dst = some 91) (s15 : 91 < F.tmps.size)
  (o16 : Oper) (h16 : ops[16]? = some o16) (g16 : o16.guard = none) (p16 : o16.op = .call { callee := .builtin .append, args := #[.tmp 89, .tmp 91], argTypes := #[t2, t2] }) (d16 : o16.dst = some 92)
  (tm3 : TypeId)
  (o21 : Oper) (h21 : ops[21]? = some o21) (g21 : o21.guard = none) (p21 : o21.op = .makeMap tm3 none) (d21 : o21.dst = some 97) (s21 : 97 < F.tmps.size)
  (o22 : Oper) (h22 : ops[22]? = some o22) (g22 : o22.guard = none) (p22 : o22.op = .buildSlice t3 1 #[(0, .tmp 97)]) (d22 : o22.dst = some 98) (s22 : 98 < F.tmps.size)
  (o23 : Oper) (h23 : ops[23]? = some o23) (g23 : o23.guard = none) (p23 : o23.op = .call { callee := .builtin .append, args := #[.tmp 96, .tmp 98], argTypes := #[t3, t3] }) (d23 : o23.dst = some 99)
  (rz8_9_15_16_21_22 : Region.ready .any ops ((((((l.setIfInBounds 8 true).setIfInBounds 9 true).setIfInBounds 15 true).setIfInBounds 16 true).setIfInBounds 21 true).setIfInBounds 22 true) = [23])
  (rz8_9_15_16_21 : Region.ready .any ops (((((l.setIfInBounds 8 true).setIfInBounds 9 true).setIfInBounds 15 true).setIfInBounds 16 true).setIfInBounds 21 true) = [22])
  (rz8_9_15_21_22 : Region.ready .any ops (((((l.setIfInBounds 8 true).setIfInBounds 9 true).setIfInBounds 15 true).setIfInBounds 21 true).setIfInBounds 22 true) = [16])
  (rz8_9_15_16 : Region.ready .any ops ((((l.setIfInBounds 8 true).setIfInBounds 9 true).setIfInBounds 15 true).setIfInBounds 16 true) = [21])
  (rz8_9_15_21 : Region.ready .any ops ((((l.setIfInBounds 8 true).setIfInBounds 9 true).setIfInBounds 15 true).setIfInBounds 21 true) = [16, 22])
  (rz8_9_21_22 : Region.ready .any ops ((((l.setIfInBounds 8 true).setIfInBounds 9 true).setIfInBounds 21 true).setIfInBounds 22 true) = [15])
  (rz8_15_21_22 : Region.ready .any ops ((((l.setIfInBounds 8 true).setIfInBounds 15 true).setIfInBounds 21 true).setIfInBounds 22 true) = [9])
  (rz8_9_15 : Region.ready .any ops (((l.setIfInBounds 8 true).setIfInBounds 9 true).setIfInBounds 15 true) = [16, 21])
  (rz8_9_21 : Region.ready .any ops (((l.setIfInBounds 8 true).setIfInBounds 9 true).setIfInBounds 21 true) = [15, 22])
  (rz8_15_21 : Region.ready .any ops (((l.setIfInBounds 8 true).setIfInBounds 15 true).setIfInBounds 21 true) = [9, 22])
  (rz8_21_22 : Region.ready .any ops (((l.setIfInBounds 8 true).setIfInBounds 21 true).setIfInBounds 22 true) = [9, 15])
  (rz15_21_22 : Region.ready .any ops (((l.setIfInBounds 15 true).setIfInBounds 21 true).setIfInBounds 22 true) = [8])
  (rz8_9 : Region.ready .any ops ((l.setIfInBounds 8 true).setIfInBounds 9 true) = [15, 21])
  (rz8_15 : Region.ready .any ops ((l.setIfInBounds 8 true).setIfInBounds 15 true) = [9, 21])
  (rz8_21 : Region.ready .any ops ((l.setIfInBounds 8 true).setIfInBounds 21 true) = [9, 15, 22])
  (rz15_21 : Region.ready .any ops ((l.setIfInBounds 15 true).setIfInBounds 21 true) = [8, 22])
  (rz21_22 : Region.ready .any ops ((l.setIfInBounds 21 true).setIfInBounds 22 true) = [8, 15])
  (rz8 : Region.ready .any ops (l.setIfInBounds 8 true) = [9, 15, 21])
  (rz15 : Region.ready .any ops (l.setIfInBounds 15 true) = [8, 21])
  (rz21 : Region.ready .any ops (l.setIfInBounds 21 true) = [8, 15, 22])
  (rz : Region.ready .any ops l = [8, 15, 21])
  (hend : ∀ (w : World) (b1 : Nat) (v1 : Value) (b2 : Nat) (v2 : Value) (m3 : Nat) (b3 : Nat) (v3 : Value), S w0 w [X, sl e1 1 v1 (n + 1) (xs1 ++ [y1]), sl e2 1 v2 (n + 1) (xs2 ++ [y2]), sl e3 1 v3 (n + 1) (xs3 ++ [(.map (some m3))]), mp Sep.encI (fun _ => True) m3 [], R, sl e1 1 (.slice (some ⟨b1, 0, none⟩) 1 1) 1 [y1], sl e2 1 (.slice (some ⟨b2, 0, none⟩) 1 1) 1 [y2], sl e3 1 (.slice (some ⟨b3, 0, none⟩) 1 1) 1 [(.map (some m3))]] → anyU P .any ops Q Sf u (k + 0) (((((((l.setIfInBounds 8 true).setIfInBounds 9 true).setIfInBounds 15 true).setIfInBounds 16 true).setIfInBounds 21 true).setIfInBounds 22 true).setIfInBounds 23 true) (((((((F.put (some 84) (.slice (some ⟨b1, 0, none⟩) 1 1)).put (some 85) v1).put (some 91) (.slice (some ⟨b2, 0, none⟩) 1 1)).put (some 92) v2).put (some 97) (.map (some m3))).put (some 98) (.slice (some ⟨b3, 0, none⟩) 1 1)).put (some 99) v3) w)
  (w : World) (h : S w0 w [X, sl e1 1 (.slice a1 n c1) n xs1, sl e2 1 (.slice a2 n c2) n xs2, sl e3 1 (.slice a3 n c3) n xs3, R]) : anyU P .any ops Q Sf u (k + 7) l F w := by
 have z8_9_15_16_21_22_23 := hend
 have z8_9_15_16_21_22 : ∀ (w : World) (b1 : Nat) (v1 : Value) (b2 : Nat) (v2 : Value) (m3 : Nat) (b3 : Nat), S w0 w [X, sl e1 1 v1 (n + 1) (xs1 ++ [y1]), sl e2 1 v2 (n + 1) (xs2 ++ [y2]), sl e3 1 (.slice a3 n c3) n xs3, mp Sep.encI (fun _ => True) m3 [], R, sl e1 1 (.slice (some ⟨b1, 0, none⟩) 1 1) 1 [y1], sl e2 1 (.slice (some ⟨b2, 0, none⟩) 1 1) 1 [y2], sl e3 1 (.slice (some ⟨b3, 0, none⟩) 1 1) 1 [(.map (some m3))]] → anyU P .any ops Q Sf u (k + 1) ((((((l.setIfInBounds 8 true).setIfInBounds 9 true).setIfInBounds 15 true).setIfInBounds 16 true).setIfInBounds 21 true).setIfInBounds 22 true) ((((((F.put (some 84) (.slice (some ⟨b1, 0, none⟩) 1 1)).put (some 85) v1).put (some 91) (.slice (some ⟨b2, 0, none⟩) 1 1)).put (some 92) v2).put (some 97) (.map (some m3))).put (some 98) (.slice (some ⟨b3, 0, none⟩) 1 1)) w := by
  intro w b1 v1 b2 v2 m3 b3 HS
  refine anyU_next rz8_9_15_16_21_22 (by simp) ?_
  refine NextU.cons h23 (fun K hK => ?_) ?_
  ·refine step_appU g23 (.tmp 96) (.tmp 98) t3 p23 e3 i3 z3 1 by3 ht3 hi3 hz3 hs3 hy3 hc3 (by decide) HS 3 rfl ((At.keep (by decide) (At.keep (by decide) (At.keep (by decide) (At.keep (by decide) (At.keep (by decide) (At.keep (by decide) A3))))))).ev _ 1 1 [(.map (some m3))] ((At.new (by simpa only [Act.put_size] using s22))).ev rfl (HS.news_slK 8 rfl) (one_val rfl) hn hb3 (fun v3 w' HS => ?_)
   refine hK.out _ _ (fun _ => hkeep _ _ (HS.nth 1 rfl)) ?_
   rw [d23]
   exact z8_9_15_16_21_22_23 _ b1 v1 b2 v2 m3 b3 v3 (HS.conv (by simp only [all, List.eraseIdx_cons_succ, List.eraseIdx_cons_zero]; ac_rfl))
  exact NextU.nil
 have z8_9_15_16_21 : ∀ (w : World) (b1 : Nat) (v1 : Value) (b2 : Nat) (v2 : Value) (m3 : Nat), S w0 w [X, sl e1 1 v1 (n + 1) (xs1 ++ [y1]), sl e2 1 v2 (n + 1) (xs2 ++ [y2]), sl e3 1 (.slice a3 n c3) n xs3, mp Sep.encI (fun _ => True) m3 [], R, sl e1 1 (.slice (some ⟨b1, 0, none⟩) 1 1) 1 [y1], sl e2 1 (.slice (some ⟨b2, 0, none⟩) 1 1) 1 [y2]] → anyU P .any ops Q Sf u (k + 2) (((((l.setIfInBounds 8 true).setIfInBounds 9 true).setIfInBounds 15 true).setIfInBounds 16 true).setIfInBounds 21 true) (((((F.put (some 84) (.slice (some ⟨b1, 0, none⟩) 1 1)).put (some 85) v1).put (some 91) (.slice (some ⟨b2, 0, none⟩) 1 1)).put (some 92) v2).put (some 97) (.map (some m3))) w := by
  intro w b1 v1 b2 v2 m3 HS
  refine anyU_next rz8_9_15_16_21 (by simp) ?_
  refine NextU.cons h22 (fun K hK => ?_) ?_
  ·refine step_buildU g22 t3 e3 _ p22 i3 z3 ht3 hi3 hz3 hs3 ((At.new (by simpa only [Act.put_size] using s21))).ev rfl HS (fun b3 w' HS => ?_)
   refine hK.out _ _ (fun _ => hkeep _ _ (HS.nth 1 rfl)) ?_
   rw [d22]
   exact z8_9_15_16_21_22 _ b1 v1 b2 v2 m3 b3 (HS.conv (by simp only [all, List.eraseIdx_cons_succ, List.eraseIdx_cons_zero]; ac_rfl))
  exact NextU.nil
 have z8_9_15_21_22 : ∀ (w : World) (b1 : Nat) (v1 : Value) (b2 : Nat) (m3 : Nat) (b3 : Nat), S w0 w [X, sl e1 1 v1 (n + 1) (xs1 ++ [y1]), sl e2 1 (.slice a2 n c2) n xs2, sl e3 1 (.slice a3 n c3) n xs3, mp Sep.encI (fun _ => True) m3 [], R, sl e1 1 (.slice (some ⟨b1, 0, none⟩) 1 1) 1 [y1], sl e2 1 (.slice (some ⟨b2, 0, none⟩) 1 1) 1 [y2], sl e3 1 (.slice (some ⟨b3, 0, none⟩) 1 1) 1 [(.map (some m3))]] → anyU P .any ops Q Sf u (k + 2) (((((l.setIfInBounds 8 true).setIfInBounds 9 true).setIfInBounds 15 true).setIfInBounds 21 true).setIfInBounds 22 true) (((((F.put (some 84) (.slice (some ⟨b1, 0, none⟩) 1 1)).put (some 85) v1).put (some 91) (.slice (some ⟨b2, 0, none⟩) 1 1)).put (some 97) (.map (some m3))).put (some 98) (.slice (some ⟨b3, 0, none⟩) 1 1)) w := by
  intro w b1 v1 b2 m3 b3 HS
  refine anyU_next rz8_9_15_21_22 (by simp) ?_
  refine NextU.cons h16 (fun K hK => ?_) ?_
  ·refine step_appU g16 (.tmp 89) (.tmp 91) t2 p16 e2 i2 z2 1 by2 ht2 hi2 hz2 hs2 hy2 hc2 (by decide) HS 2 rfl ((At.keep (by decide) (At.keep (by decide) (At.keep (by decide) (At.keep (by decide) (At.keep (by decide) A2)))))).ev _ 1 1 [y2] ((At.keep (by decide) (At.keep (by decide) (At.new (by simpa only [Act.put_size] using s15))))).ev rfl (HS.news_slK 7 rfl) (one_val ho2) hn hb2 (fun v2 w' HS => ?_)
   refine hK.out _ _ (fun _ => hkeep _ _ (HS.nth 1 rfl)) ?_
   rw [d16]
   rw [Act.put_swap _ 98 92 _ _ (by decide), Array.setIfInBounds_comm _ _ (show 22 ≠ 16 by decide)]
   rw [Act.put_swap _ 97 92 _ _ (by decide), Array.setIfInBounds_comm _ _ (show 21 ≠ 16 by decide)]
   exact z8_9_15_16_21_22 _ b1 v1 b2 v2 m3 b3 (HS.conv (by simp only [all, List.eraseIdx_cons_succ, List.eraseIdx_cons_zero]; ac_rfl))
  exact NextU.nil
 have z8_9_15_16 : ∀ (w : World) (b1 : Nat) (v1 : Value) (b2 : Nat) (v2 : Value), S w0 w [X, sl e1 1 v1 (n + 1) (xs1 ++ [y1]), sl e2 1 v2 (n + 1) (xs2 ++ [y2]), sl e3 1 (.slice a3 n c3) n xs3, R, sl e1 1 (.slice (some ⟨b1, 0, none⟩) 1 1) 1 [y1], sl e2 1 (.slice (some ⟨b2, 0, none⟩) 1 1) 1 [y2]] → anyU P .any ops Q Sf u (k + 3) ((((l.setIfInBounds 8 true).setIfInBounds 9 true).setIfInBounds 15 true).setIfInBounds 16 true) ((((F.put (some 84) (.slice (some ⟨b1, 0, none⟩) 1 1)).put (some 85) v1).put (some 91) (.slice (some ⟨b2, 0, none⟩) 1 1)).put (some 92) v2) w := by
  intro w b1 v1 b2 v2 HS
  refine anyU_next rz8_9_15_16 (by simp) ?_
  refine NextU.cons h21 (fun K hK => ?_) ?_
  ·refine step_makeMapU g21 tm3 p21 HS (fun m3 w' HS => ?_)
   refine hK.out _ _ (fun _ => hkeep _ _ (HS.nth 1 rfl)) ?_
   rw [d21]
   exact z8_9_15_16_21 _ b1 v1 b2 v2 m3 (HS.conv (by simp only [all, List.eraseIdx_cons_succ, List.eraseIdx_cons_zero]; ac_rfl))
  exact NextU.nil
 have z8_9_15_21 : ∀ (w : World) (b1 : Nat) (v1 : Value) (b2 : Nat) (m3 : Nat), S w0 w [X, sl e1 1 v1 (n + 1) (xs1 ++ [y1]), sl e2 1 (.slice a2 n c2) n xs2, sl e3 1 (.slice a3 n c3) n xs3, mp Sep.encI (fun _ => True) m3 [], R, sl e1 1 (.slice (some ⟨b1, 0, none⟩) 1 1) 1 [y1], sl e2 1 (.slice (some ⟨b2, 0, none⟩) 1 1) 1 [y2]] → anyU P .any ops Q Sf u (k + 3) ((((l.setIfInBounds 8 true).setIfInBounds 9 true).setIfInBounds 15 true).setIfInBounds 21 true) ((((F.put (some 84) (.slice (some ⟨b1, 0, none⟩) 1 1)).put (some 85) v1).put (some 91) (.slice (some ⟨b2, 0, none⟩) 1 1)).put (some 97) (.map (some m3))) w := by
  intro w b1 v1 b2 m3 HS
  refine anyU_next rz8_9_15_21 (by simp) ?_
  refine NextU.cons h16 (fun K hK => ?_) ?_
  ·refine step_appU g16 (.tmp 89) (.tmp 91) t2 p16 e2 i2 z2 1 by2 ht2 hi2 hz2 hs2 hy2 hc2 (by decide) HS 2 rfl ((At.keep (by decide) (At.keep (by decide) (At.keep (by decide) (At.keep (by decide) A2))))).ev _ 1 1 [y2] ((At.keep (by decide) (At.new (by simpa only [Act.put_size] using s15)))).ev rfl (HS.news_slK 7 rfl) (one_val ho2) hn hb2 (fun v2 w' HS => ?_)
   refine hK.out _ _ (fun _ => hkeep _ _ (HS.nth 1 rfl)) ?_
   rw [d16]
   rw [Act.put_swap _ 97 92 _ _ (by decide), Array.setIfInBounds_comm _ _ (show 21 ≠ 16 by decide)]
   exact z8_9_15_16_21 _ b1 v1 b2 v2 m3 (HS.conv (by simp only [all, List.eraseIdx_cons_succ, List.eraseIdx_cons_zero]; ac_rfl))
  refine NextU.cons h22 (fun K hK => ?_) ?_
  ·refine step_buildU g22 t3 e3 _ p22 i3 z3 ht3 hi3 hz3 hs3 ((At.new (by simpa only [Act.put_size] using s21))).ev rfl HS (fun b3 w' HS => ?_)
   refine hK.out _ _ (fun _ => hkeep _ _ (HS.nth 1 rfl)) ?_
   rw [d22]
   exact z8_9_15_21_22 _ b1 v1 b2 m3 b3 (HS.conv (by simp only [all, List.eraseIdx_cons_succ, List.eraseIdx_cons_zero]; ac_rfl))
  exact NextU.nil
 have z8_9_21_22 : ∀ (w : World) (b1 : Nat) (v1 : Value) (m3 : Nat) (b3 : Nat), S w0 w [X, sl e1 1 v1 (n + 1) (xs1 ++ [y1]), sl e2 1 (.slice a2 n c2) n xs2, sl e3 1 (.slice a3 n c3) n xs3, mp Sep.encI (fun _ => True) m3 [], R, sl e1 1 (.slice (some ⟨b1, 0, none⟩) 1 1) 1 [y1], sl e3 1 (.slice (some ⟨b3, 0, none⟩) 1 1) 1 [(.map (some m3))]] → anyU P .any ops Q Sf u (k + 3) ((((l.setIfInBounds 8 true).setIfInBounds 9 true).setIfInBounds 21 true).setIfInBounds 22 true) ((((F.put (some 84) (.slice (some ⟨b1, 0, none⟩) 1 1)).put (some 85) v1).put (some 97) (.map (some m3))).put (some 98) (.slice (some ⟨b3, 0, none⟩) 1 1)) w := by
  intro w b1 v1 m3 b3 HS
  refine anyU_next rz8_9_21_22 (by simp) ?_
  refine NextU.cons h15 (fun K hK => ?_) ?_
  ·refine step_buildU g15 t2 e2 _ p15 i2 z2 ht2 hi2 hz2 hs2 ((At.keep (by decide) (At.keep (by decide) (At.keep (by decide) (At.keep (by decide) Y2))))).ev ho2 HS (fun b2 w' HS => ?_)
   refine hK.out _ _ (fun _ => hkeep _ _ (HS.nth 1 rfl)) ?_
   rw [d15]
   rw [Act.put_swap _ 98 91 _ _ (by decide), Array.setIfInBounds_comm _ _ (show 22 ≠ 15 by decide)]
   rw [Act.put_swap _ 97 91 _ _ (by decide), Array.setIfInBounds_comm _ _ (show 21 ≠ 15 by decide)]
   exact z8_9_15_21_22 _ b1 v1 b2 m3 b3 (HS.conv (by simp only [all, List.eraseIdx_cons_succ, List.eraseIdx_cons_zero]; ac_rfl))
  exact NextU.nil
 have z8_15_21_22 : ∀ (w : World) (b1 : Nat) (b2 : Nat) (m3 : Nat) (b3 : Nat), S w0 w [X, sl e1 1 (.slice a1 n c1) n xs1, sl e2 1 (.slice a2 n c2) n xs2, sl e3 1 (.slice a3 n c3) n xs3, mp Sep.encI (fun _ => True) m3 [], R, sl e1 1 (.slice (some ⟨b1, 0, none⟩) 1 1) 1 [y1], sl e2 1 (.slice (some ⟨b2, 0, none⟩) 1 1) 1 [y2], sl e3 1 (.slice (some ⟨b3, 0, none⟩) 1 1) 1 [(.map (some m3))]] → anyU P .any ops Q Sf u (k + 3) ((((l.setIfInBounds 8 true).setIfInBounds 15 true).setIfInBounds 21 true).setIfInBounds 22 true) ((((F.put (some 84) (.slice (some ⟨b1, 0, none⟩) 1 1)).put (some 91) (.slice (some ⟨b2, 0, none⟩) 1 1)).put (some 97) (.map (some m3))).put (some 98) (.slice (some ⟨b3, 0, none⟩) 1 1)) w := by
  intro w b1 b2 m3 b3 HS
  refine anyU_next rz8_15_21_22 (by simp) ?_
  refine NextU.cons h9 (fun K hK => ?_) ?_
  ·refine step_appU g9 (.tmp 82) (.tmp 84) t1 p9 e1 i1 z1 1 by1 ht1 hi1 hz1 hs1 hy1 hc1 (by decide) HS 1 rfl ((At.keep (by decide) (At.keep (by decide) (At.keep (by decide) (At.keep (by decide) A1))))).ev _ 1 1 [y1] ((At.keep (by decide) (At.keep (by decide) (At.keep (by decide) (At.new (by simpa only [Act.put_size] using s8)))))).ev rfl (HS.news_slK 6 rfl) (one_val ho1) hn hb1 (fun v1 w' HS => ?_)
   refine hK.out _ _ (fun _ => hkeep _ _ (HS.nth 1 rfl)) ?_
   rw [d9]
   rw [Act.put_swap _ 98 85 _ _ (by decide), Array.setIfInBounds_comm _ _ (show 22 ≠ 9 by decide)]
   rw [Act.put_swap _ 97 85 _ _ (by decide), Array.setIfInBounds_comm _ _ (show 21 ≠ 9 by decide)]
   rw [Act.put_swap _ 91 85 _ _ (by decide), Array.setIfInBounds_comm _ _ (show 15 ≠ 9 by decide)]
   exact z8_9_15_21_22 _ b1 v1 b2 m3 b3 (HS.conv (by simp only [all, List.eraseIdx_cons_succ, List.eraseIdx_cons_zero]; ac_rfl))
  exact NextU.nil
 have z8_9_15 : ∀ (w : World) (b1 : Nat) (v1 : Value) (b2 : Nat), S w0 w [X, sl e1 1 v1 (n + 1) (xs1 ++ [y1]), sl e2 1 (.slice a2 n c2) n xs2, sl e3 1 (.slice a3 n c3) n xs3, R, sl e1 1 (.slice (some ⟨b1, 0, none⟩) 1 1) 1 [y1], sl e2 1 (.slice (some ⟨b2, 0, none⟩) 1 1) 1 [y2]] → anyU P .any ops Q Sf u (k + 4) (((l.setIfInBounds 8 true).setIfInBounds 9 true).setIfInBounds 15 true) (((F.put (some 84) (.slice (some ⟨b1, 0, none⟩) 1 1)).put (some 85) v1).put (some 91) (.slice (some ⟨b2, 0, none⟩) 1 1)) w := by
  intro w b1 v1 b2 HS
  refine anyU_next rz8_9_15 (by simp) ?_
  refine NextU.cons h16 (fun K hK => ?_) ?_
  ·refine step_appU g16 (.tmp 89) (.tmp 91) t2 p16 e2 i2 z2 1 by2 ht2 hi2 hz2 hs2 hy2 hc2 (by decide) HS 2 rfl ((At.keep (by decide) (At.keep (by decide) (At.keep (by decide) A2)))).ev _ 1 1 [y2] ((At.new (by simpa only [Act.put_size] using s15))).ev rfl (HS.news_slK 6 rfl) (one_val ho2) hn hb2 (fun v2 w' HS => ?_)
   refine hK.out _ _ (fun _ => hkeep _ _ (HS.nth 1 rfl)) ?_
   rw [d16]
   exact z8_9_15_16 _ b1 v1 b2 v2 (HS.conv (by simp only [all, List.eraseIdx_cons_succ, List.eraseIdx_cons_zero]; ac_rfl))
  refine NextU.cons h21 (fun K hK => ?_) ?_
  ·refine step_makeMapU g21 tm3 p21 HS (fun m3 w' HS => ?_)
   refine hK.out _ _ (fun _ => hkeep _ _ (HS.nth 1 rfl)) ?_
   rw [d21]
   exact z8_9_15_21 _ b1 v1 b2 m3 (HS.conv (by simp only [all, List.eraseIdx_cons_succ, List.eraseIdx_cons_zero]; ac_rfl))
  exact NextU.nil
 have z8_9_21 : ∀ (w : World) (b1 : Nat) (v1 : Value) (m3 : Nat), S w0 w [X, sl e1 1 v1 (n + 1) (xs1 ++ [y1]), sl e2 1 (.slice a2 n c2) n xs2, sl e3 1 (.slice a3 n c3) n xs3, mp Sep.encI (fun _ => True) m3 [], R, sl e1 1 (.slice (some ⟨b1, 0, none⟩) 1 1) 1 [y1]] → anyU P .any ops Q Sf u (k + 4) (((l.setIfInBounds 8 true).setIfInBounds 9 true).setIfInBounds 21 true) (((F.put (some 84) (.slice (some ⟨b1, 0, none⟩) 1 1)).put (some 85) v1).put (some 97) (.map (some m3))) w := by
  intro w b1 v1 m3 HS
  refine anyU_next rz8_9_21 (by simp) ?_
  refine NextU.cons h15 (fun K hK => ?_) ?_
  ·refine step_buildU g15 t2 e2 _ p15 i2 z2 ht2 hi2 hz2 hs2 ((At.keep (by decide) (At.keep (by decide) (At.keep (by decide) Y2)))).ev ho2 HS (fun b2 w' HS => ?_)
   refine hK.out _ _ (fun _ => hkeep _ _ (HS.nth 1 rfl)) ?_
   rw [d15]
   rw [Act.put_swap _ 97 91 _ _ (by decide), Array.setIfInBounds_comm _ _ (show 21 ≠ 15 by decide)]
   exact z8_9_15_21 _ b1 v1 b2 m3 (HS.conv (by simp only [all, List.eraseIdx_cons_succ, List.eraseIdx_cons_zero]; ac_rfl))
  refine NextU.cons h22 (fun K hK => ?_) ?_
  ·refine step_buildU g22 t3 e3 _ p22 i3 z3 ht3 hi3 hz3 hs3 ((At.new (by simpa only [Act.put_size] using s21))).ev rfl HS (fun b3 w' HS => ?_)
   refine hK.out _ _ (fun _ => hkeep _ _ (HS.nth 1 rfl)) ?_
   rw [d22]
   exact z8_9_21_22 _ b1 v1 m3 b3 (HS.conv (by simp only [all, List.eraseIdx_cons_succ, List.eraseIdx_cons_zero]; ac_rfl))
  exact NextU.nil
 have z8_15_21 : ∀ (w : World) (b1 : Nat) (b2 : Nat) (m3 : Nat), S w0 w [X, sl e1 1 (.slice a1 n c1) n xs1, sl e2 1 (.slice a2 n c2) n xs2, sl e3 1 (.slice a3 n c3) n xs3, mp Sep.encI (fun _ => True) m3 [], R, sl e1 1 (.slice (some ⟨b1, 0, none⟩) 1 1) 1 [y1], sl e2 1 (.slice (some ⟨b2, 0, none⟩) 1 1) 1 [y2]] → anyU P .any ops Q Sf u (k + 4) (((l.setIfInBounds 8 true).setIfInBounds 15 true).setIfInBounds 21 true) (((F.put (some 84) (.slice (some ⟨b1, 0, none⟩) 1 1)).put (some 91) (.slice (some ⟨b2, 0, none⟩) 1 1)).put (some 97) (.map (some m3))) w := by
  intro w b1 b2 m3 HS
  refine anyU_next rz8_15_21 (by simp) ?_
  refine NextU.cons h9 (fun K hK => ?_) ?_
  ·refine step_appU g9 (.tmp 82) (.tmp 84) t1 p9 e1 i1 z1 1 by1 ht1 hi1 hz1 hs1 hy1 hc1 (by decide) HS 1 rfl ((At.keep (by decide) (At.keep (by decide) (At.keep (by decide) A1)))).ev _ 1 1 [y1] ((At.keep (by decide) (At.keep (by decide) (At.new (by simpa only [Act.put_size] using s8))))).ev rfl (HS.news_slK 6 rfl) (one_val ho1) hn hb1 (fun v1 w' HS => ?_)
   refine hK.out _ _ (fun _ => hkeep _ _ (HS.nth 1 rfl)) ?_
   rw [d9]
   rw [Act.put_swap _ 97 85 _ _ (by decide), Array.setIfInBounds_comm _ _ (show 21 ≠ 9 by decide)]
   rw [Act.put_swap _ 91 85 _ _ (by decide), Array.setIfInBounds_comm _ _ (show 15 ≠ 9 by decide)]
   exact z8_9_15_21 _ b1 v1 b2 m3 (HS.conv (by simp only [all, List.eraseIdx_cons_succ, List.eraseIdx_cons_zero]; ac_rfl))
  refine NextU.cons h22 (fun K hK => ?_) ?_
  ·refine step_buildU g22 t3 e3 _ p22 i3 z3 ht3 hi3 hz3 hs3 ((At.new (by simpa only [Act.put_size] using s21))).ev rfl HS (fun b3 w' HS => ?_)
   refine hK.out _ _ (fun _ => hkeep _ _ (HS.nth 1 rfl)) ?_
   rw [d22]
   exact z8_15_21_22 _ b1 b2 m3 b3 (HS.conv (by simp only [all, List.eraseIdx_cons_succ, List.eraseIdx_cons_zero]; ac_rfl))
  exact NextU.nil
 have z8_21_22 : ∀ (w : World) (b1 : Nat) (m3 : Nat) (b3 : Nat), S w0 w [X, sl e1 1 (.slice a1 n c1) n xs1, sl e2 1 (.slice a2 n c2) n xs2, sl e3 1 (.slice a3 n c3) n xs3, mp Sep.encI (fun _ => True) m3 [], R, sl e1 1 (.slice (some ⟨b1, 0, none⟩) 1 1) 1 [y1], sl e3 1 (.slice (some ⟨b3, 0, none⟩) 1 1) 1 [(.map (some m3))]] → anyU P .any ops Q Sf u (k + 4) (((l.setIfInBounds 8 true).setIfInBounds 21 true).setIfInBounds 22 true) (((F.put (some 84) (.slice (some ⟨b1, 0, none⟩) 1 1)).put (some 97) (.map (some m3))).put (some 98) (.slice (some ⟨b3, 0, none⟩) 1 1)) w := by
  intro w b1 m3 b3 HS
  refine anyU_next rz8_21_22 (by simp) ?_
  refine NextU.cons h9 (fun K hK => ?_) ?_
  ·refine step_appU g9 (.tmp 82) (.tmp 84) t1 p9 e1 i1 z1 1 by1 ht1 hi1 hz1 hs1 hy1 hc1 (by decide) HS 1 rfl ((At.keep (by decide) (At.keep (by decide) (At.keep (by decide) A1)))).ev _ 1 1 [y1] ((At.keep (by decide) (At.keep (by decide) (At.new (by simpa only [Act.put_size] using s8))))).ev rfl (HS.news_slK 6 rfl) (one_val ho1) hn hb1 (fun v1 w' HS => ?_)
   refine hK.out _ _ (fun _ => hkeep _ _ (HS.nth 1 rfl)) ?_
   rw [d9]
   rw [Act.put_swap _ 98 85 _ _ (by decide), Array.setIfInBounds_comm _ _ (show 22 ≠ 9 by decide)]
   rw [Act.put_swap _ 97 85 _ _ (by decide), Array.setIfInBounds_comm _ _ (show 21 ≠ 9 by decide)]
   exact z8_9_21_22 _ b1 v1 m3 b3 (HS.conv (by simp only [all, List.eraseIdx_cons_succ, List.eraseIdx_cons_zero]; ac_rfl))
  refine NextU.cons h15 (fun K hK => ?_) ?_
  ·refine step_buildU g15 t2 e2 _ p15 i2 z2 ht2 hi2 hz2 hs2 ((At.keep (by decide) (At.keep (by decide) (At.keep (by decide) Y2)))).ev ho2 HS (fun b2 w' HS => ?_)
   refine hK.out _ _ (fun _ => hkeep _ _ (HS.nth 1 rfl)) ?_
   rw [d15]
   rw [Act.put_swap _ 98 91 _ _ (by decide), Array.setIfInBounds_comm _ _ (show 22 ≠ 15 by decide)]
   rw [Act.put_swap _ 97 91 _ _ (by decide), Array.setIfInBounds_comm _ _ (show 21 ≠ 15 by decide)]
   exact z8_15_21_22 _ b1 b2 m3 b3 (HS.conv (by simp only [all, List.eraseIdx_cons_succ, List.eraseIdx_cons_zero]; ac_rfl))
  exact NextU.nil
 have z15_21_22 : ∀ (w : World) (b2 : Nat) (m3 : Nat) (b3 : Nat), S w0 w [X, sl e1 1 (.slice a1 n c1) n xs1, sl e2 1 (.slice a2 n c2) n xs2, sl e3 1 (.slice a3 n c3) n xs3, mp Sep.encI (fun _ => True) m3 [], R, sl e2 1 (.slice (some ⟨b2, 0, none⟩) 1 1) 1 [y2], sl e3 1 (.slice (some ⟨b3, 0, none⟩) 1 1) 1 [(.map (some m3))]] → anyU P .any ops Q Sf u (k + 4) (((l.setIfInBounds 15 true).setIfInBounds 21 true).setIfInBounds 22 true) (((F.put (some 91) (.slice (some ⟨b2, 0, none⟩) 1 1)).put (some 97) (.map (some m3))).put (some 98) (.slice (some ⟨b3, 0, none⟩) 1 1)) w := by
  intro w b2 m3 b3 HS
  refine anyU_next rz15_21_22 (by simp) ?_
  refine NextU.cons h8 (fun K hK => ?_) ?_
  ·refine step_buildU g8 t1 e1 _ p8 i1 z1 ht1 hi1 hz1 hs1 ((At.keep (by decide) (At.keep (by decide) (At.keep (by decide) Y1)))).ev ho1 HS (fun b1 w' HS => ?_)
   refine hK.out _ _ (fun _ => hkeep _ _ (HS.nth 1 rfl)) ?_
   rw [d8]
   rw [Act.put_swap _ 98 84 _ _ (by decide), Array.setIfInBounds_comm _ _ (show 22 ≠ 8 by decide)]
   rw [Act.put_swap _ 97 84 _ _ (by decide), Array.setIfInBounds_comm _ _ (show 21 ≠ 8 by decide)]
   rw [Act.put_swap _ 91 84 _ _ (by decide), Array.setIfInBounds_comm _ _ (show 15 ≠ 8 by decide)]
   exact z8_15_21_22 _ b1 b2 m3 b3 (HS.conv (by simp only [all, List.eraseIdx_cons_succ, List.eraseIdx_cons_zero]; ac_rfl))
  exact NextU.nil
 have z8_9 : ∀ (w : World) (b1 : Nat) (v1 : Value), S w0 w [X, sl e1 1 v1 (n + 1) (xs1 ++ [y1]), sl e2 1 (.slice a2 n c2) n xs2, sl e3 1 (.slice a3 n c3) n xs3, R, sl e1 1 (.slice (some ⟨b1, 0, none⟩) 1 1) 1 [y1]] → anyU P .any ops Q Sf u (k + 5) ((l.setIfInBounds 8 true).setIfInBounds 9 true) ((F.put (some 84) (.slice (some ⟨b1, 0, none⟩) 1 1)).put (some 85) v1) w := by
  intro w b1 v1 HS
  refine anyU_next rz8_9 (by simp) ?_
  refine NextU.cons h15 (fun K hK => ?_) ?_
  ·refine step_buildU g15 t2 e2 _ p15 i2 z2 ht2 hi2 hz2 hs2 ((At.keep (by decide) (At.keep (by decide) Y2))).ev ho2 HS (fun b2 w' HS => ?_)
   refine hK.out _ _ (fun _ => hkeep _ _ (HS.nth 1 rfl)) ?_
   rw [d15]
   exact z8_9_15 _ b1 v1 b2 (HS.conv (by simp only [all, List.eraseIdx_cons_succ, List.eraseIdx_cons_zero]; ac_rfl))
  refine NextU.cons h21 (fun K hK => ?_) ?_
  ·refine step_makeMapU g21 tm3 p21 HS (fun m3 w' HS => ?_)
   refine hK.out _ _ (fun _ => hkeep _ _ (HS.nth 1 rfl)) ?_
   rw [d21]
   exact z8_9_21 _ b1 v1 m3 (HS.conv (by simp only [all, List.eraseIdx_cons_succ, List.eraseIdx_cons_zero]; ac_rfl))
  exact NextU.nil
 have z8_15 : ∀ (w : World) (b1 : Nat) (b2 : Nat), S w0 w [X, sl e1 1 (.slice a1 n c1) n xs1, sl e2 1 (.slice a2 n c2) n xs2, sl e3 1 (.slice a3 n c3) n xs3, R, sl e1 1 (.slice (some ⟨b1, 0, none⟩) 1 1) 1 [y1], sl e2 1 (.slice (some ⟨b2, 0, none⟩) 1 1) 1 [y2]] → anyU P .any ops Q Sf u (k + 5) ((l.setIfInBounds 8 true).setIfInBounds 15 true) ((F.put (some 84) (.slice (some ⟨b1, 0, none⟩) 1 1)).put (some 91) (.slice (some ⟨b2, 0, none⟩) 1 1)) w := by
  intro w b1 b2 HS
  refine anyU_next rz8_15 (by simp) ?_
  refine NextU.cons h9 (fun K hK => ?_) ?_
  ·refine step_appU g9 (.tmp 82) (.tmp 84) t1 p9 e1 i1 z1 1 by1 ht1 hi1 hz1 hs1 hy1 hc1 (by decide) HS 1 rfl ((At.keep (by decide) (At.keep (by decide) A1))).ev _ 1 1 [y1] ((At.keep (by decide) (At.new (by simpa only [Act.put_size] using s8)))).ev rfl (HS.news_slK 5 rfl) (one_val ho1) hn hb1 (fun v1 w' HS => ?_)
   refine hK.out _ _ (fun _ => hkeep _ _ (HS.nth 1 rfl)) ?_
   rw [d9]
   rw [Act.put_swap _ 91 85 _ _ (by decide), Array.setIfInBounds_comm _ _ (show 15 ≠ 9 by decide)]
   exact z8_9_15 _ b1 v1 b2 (HS.conv (by simp only [all, List.eraseIdx_cons_succ, List.eraseIdx_cons_zero]; ac_rfl))
  refine NextU.cons h21 (fun K hK => ?_) ?_
  ·refine step_makeMapU g21 tm3 p21 HS (fun m3 w' HS => ?_)
   refine hK.out _ _ (fun _ => hkeep _ _ (HS.nth 1 rfl)) ?_
   rw [d21]
   exact z8_15_21 _ b1 b2 m3 (HS.conv (by simp only [all, List.eraseIdx_cons_succ, List.eraseIdx_cons_zero]; ac_rfl))
  exact NextU.nil
 have z8_21 : ∀ (w : World) (b1 : Nat) (m3 : Nat), S w0 w [X, sl e1 1 (.slice a1 n c1) n xs1, sl e2 1 (.slice a2 n c2) n xs2, sl e3 1 (.slice a3 n c3) n xs3, mp Sep.encI (fun _ => True) m3 [], R, sl e1 1 (.slice (some ⟨b1, 0, none⟩) 1 1) 1 [y1]] → anyU P .any ops Q Sf u (k + 5) ((l.setIfInBounds 8 true).setIfInBounds 21 true) ((F.put (some 84) (.slice (some ⟨b1, 0, none⟩) 1 1)).put (some 97) (.map (some m3))) w := by
  intro w b1 m3 HS
  refine anyU_next rz8_21 (by simp) ?_
  refine NextU.cons h9 (fun K hK => ?_) ?_
  ·refine step_appU g9 (.tmp 82) (.tmp 84) t1 p9 e1 i1 z1 1 by1 ht1 hi1 hz1 hs1 hy1 hc1 (by decide) HS 1 rfl ((At.keep (by decide) (At.keep (by decide) A1))).ev _ 1 1 [y1] ((At.keep (by decide) (At.new (by simpa only [Act.put_size] using s8)))).ev rfl (HS.news_slK 6 rfl) (one_val ho1) hn hb1 (fun v1 w' HS => ?_)
   refine hK.out _ _ (fun _ => hkeep _ _ (HS.nth 1 rfl)) ?_
   rw [d9]
   rw [Act.put_swap _ 97 85 _ _ (by decide), Array.setIfInBounds_comm _ _ (show 21 ≠ 9 by decide)]
   exact z8_9_21 _ b1 v1 m3 (HS.conv (by simp only [all, List.eraseIdx_cons_succ, List.eraseIdx_cons_zero]; ac_rfl))
  refine NextU.cons h15 (fun K hK => ?_) ?_
  ·refine step_buildU g15 t2 e2 _ p15 i2 z2 ht2 hi2 hz2 hs2 ((At.keep (by decide) (At.keep (by decide) Y2))).ev ho2 HS (fun b2 w' HS => ?_)
   refine hK.out _ _ (fun _ => hkeep _ _ (HS.nth 1 rfl)) ?_
   rw [d15]
   rw [Act.put_swap _ 97 91 _ _ (by decide), Array.setIfInBounds_comm _ _ (show 21 ≠ 15 by decide)]
   exact z8_15_21 _ b1 b2 m3 (HS.conv (by simp only [all, List.eraseIdx_cons_succ, List.eraseIdx_cons_zero]; ac_rfl))
  refine NextU.cons h22 (fun K hK => ?_) ?_
  ·refine step_buildU g22 t3 e3 _ p22 i3 z3 ht3 hi3 hz3 hs3 ((At.new (by simpa only [Act.put_size] using s21))).ev rfl HS (fun b3 w' HS => ?_)
   refine hK.out _ _ (fun _ => hkeep _ _ (HS.nth 1 rfl)) ?_
   rw [d22]
   exact z8_21_22 _ b1 m3 b3 (HS.conv (by simp only [all, List.eraseIdx_cons_succ, List.eraseIdx_cons_zero]; ac_rfl))
  exact NextU.nil
 have z15_21 : ∀ (w : World) (b2 : Nat) (m3 : Nat), S w0 w [X, sl e1 1 (.slice a1 n c1) n xs1, sl e2 1 (.slice a2 n c2) n xs2, sl e3 1 (.slice a3 n c3) n xs3, mp Sep.encI (fun _ => True) m3 [], R, sl e2 1 (.slice (some ⟨b2, 0, none⟩) 1 1) 1 [y2]] → anyU P .any ops Q Sf u (k + 5) ((l.setIfInBounds 15 true).setIfInBounds 21 true) ((F.put (some 91) (.slice (some ⟨b2, 0, none⟩) 1 1)).put (some 97) (.map (some m3))) w := by
  intro w b2 m3 HS
  refine anyU_next rz15_21 (by simp) ?_
  refine NextU.cons h8 (fun K hK => ?_) ?_
  ·refine step_buildU g8 t1 e1 _ p8 i1 z1 ht1 hi1 hz1 hs1 ((At.keep (by decide) (At.keep (by decide) Y1))).ev ho1 HS (fun b1 w' HS => ?_)
   refine hK.out _ _ (fun _ => hkeep _ _ (HS.nth 1 rfl)) ?_
   rw [d8]
   rw [Act.put_swap _ 97 84 _ _ (by decide), Array.setIfInBounds_comm _ _ (show 21 ≠ 8 by decide)]
   rw [Act.put_swap _ 91 84 _ _ (by decide), Array.setIfInBounds_comm _ _ (show 15 ≠ 8 by decide)]
   exact z8_15_21 _ b1 b2 m3 (HS.conv (by simp only [all, List.eraseIdx_cons_succ, List.eraseIdx_cons_zero]; ac_rfl))
  refine NextU.cons h22 (fun K hK => ?_) ?_
  ·refine step_buildU g22 t3 e3 _ p22 i3 z3 ht3 hi3 hz3 hs3 ((At.new (by simpa only [Act.put_size] using s21))).ev rfl HS (fun b3 w' HS => ?_)
   refine hK.out _ _ (fun _ => hkeep _ _ (HS.nth 1 rfl)) ?_
   rw [d22]
   exact z15_21_22 _ b2 m3 b3 (HS.conv (by simp only [all, List.eraseIdx_cons_succ, List.eraseIdx_cons_zero]; ac_rfl))
  exact NextU.nil
 have z21_22 : ∀ (w : World) (m3 : Nat) (b3 : Nat), S w0 w [X, sl e1 1 (.slice a1 n c1) n xs1, sl e2 1 (.slice a2 n c2) n xs2, sl e3 1 (.slice a3 n c3) n xs3, mp Sep.encI (fun _ => True) m3 [], R, sl e3 1 (.slice (some ⟨b3, 0, none⟩) 1 1) 1 [(.map (some m3))]] → anyU P .any ops Q Sf u (k + 5) ((l.setIfInBounds 21 true).setIfInBounds 22 true) ((F.put (some 97) (.map (some m3))).put (some 98) (.slice (some ⟨b3, 0, none⟩) 1 1)) w := by
  intro w m3 b3 HS
  refine anyU_next rz21_22 (by simp) ?_
  refine NextU.cons h8 (fun K hK => ?_) ?_
  ·refine step_buildU g8 t1 e1 _ p8 i1 z1 ht1 hi1 hz1 hs1 ((At.keep (by decide) (At.keep (by decide) Y1))).ev ho1 HS (fun b1 w' HS => ?_)
   refine hK.out _ _ (fun _ => hkeep _ _ (HS.nth 1 rfl)) ?_
   rw [d8]
   rw [Act.put_swap _ 98 84 _ _ (by decide), Array.setIfInBounds_comm _ _ (show 22 ≠ 8 by decide)]
   rw [Act.put_swap _ 97 84 _ _ (by decide), Array.setIfInBounds_comm _ _ (show 21 ≠ 8 by decide)]
   exact z8_21_22 _ b1 m3 b3 (HS.conv (by simp only [all, List.eraseIdx_cons_succ, List.eraseIdx_cons_zero]; ac_rfl))
  refine NextU.cons h15 (fun K hK => ?_) ?_
  ·refine step_buildU g15 t2 e2 _ p15 i2 z2 ht2 hi2 hz2 hs2 ((At.keep (by decide) (At.keep (by decide) Y2))).ev ho2 HS (fun b2 w' HS => ?_)
   refine hK.out _ _ (fun _ => hkeep _ _ (HS.nth 1 rfl)) ?_
   rw [d15]
   rw [Act.put_swap _ 98 91 _ _ (by decide), Array.setIfInBounds_comm _ _ (show 22 ≠ 15 by decide)]
   rw [Act.put_swap _ 97 91 _ _ (by decide), Array.setIfInBounds_comm _ _ (show 21 ≠ 15 by decide)]
   exact z15_21_22 _ b2 m3 b3 (HS.conv (by simp only [all, List.eraseIdx_cons_succ, List.eraseIdx_cons_zero]; ac_rfl))
  exact NextU.nil
 have z8 : ∀ (w : World) (b1 : Nat), S w0 w [X, sl e1 1 (.slice a1 n c1) n xs1, sl e2 1 (.slice a2 n c2) n xs2, sl e3 1 (.slice a3 n c3) n xs3, R, sl e1 1 (.slice (some ⟨b1, 0, none⟩) 1 1) 1 [y1]] → anyU P .any ops Q Sf u (k + 6) (l.setIfInBounds 8 true) (F.put (some 84) (.slice (some ⟨b1, 0, none⟩) 1 1)) w := by
  intro w b1 HS
  refine anyU_next rz8 (by simp) ?_
  refine NextU.cons h9 (fun K hK => ?_) ?_
  ·refine step_appU g9 (.tmp 82) (.tmp 84) t1 p9 e1 i1 z1 1 by1 ht1 hi1 hz1 hs1 hy1 hc1 (by decide) HS 1 rfl ((At.keep (by decide) A1)).ev _ 1 1 [y1] ((At.new (by simpa only [Act.put_size] using s8))).ev rfl (HS.news_slK 5 rfl) (one_val ho1) hn hb1 (fun v1 w' HS => ?_)
   refine hK.out _ _ (fun _ => hkeep _ _ (HS.nth 1 rfl)) ?_
   rw [d9]
   exact z8_9 _ b1 v1 (HS.conv (by simp only [all, List.eraseIdx_cons_succ, List.eraseIdx_cons_zero]; ac_rfl))
  refine NextU.cons h15 (fun K hK => ?_) ?_
  ·refine step_buildU g15 t2 e2 _ p15 i2 z2 ht2 hi2 hz2 hs2 ((At.keep (by decide) Y2)).ev ho2 HS (fun b2 w' HS => ?_)
   refine hK.out _ _ (fun _ => hkeep _ _ (HS.nth 1 rfl)) ?_
   rw [d15]
   exact z8_15 _ b1 b2 (HS.conv (by simp only [all, List.eraseIdx_cons_succ, List.eraseIdx_cons_zero]; ac_rfl))
  refine NextU.cons h21 (fun K hK => ?_) ?_
  ·refine step_makeMapU g21 tm3 p21 HS (fun m3 w' HS => ?_)
   refine hK.out _ _ (fun _ => hkeep _ _ (HS.nth 1 rfl)) ?_
   rw [d21]
   exact z8_21 _ b1 m3 (HS.conv (by simp only [all, List.eraseIdx_cons_succ, List.eraseIdx_cons_zero]; ac_rfl))
  exact NextU.nil
 have z15 : ∀ (w : World) (b2 : Nat), S w0 w [X, sl e1 1 (.slice a1 n c1) n xs1, sl e2 1 (.slice a2 n c2) n xs2, sl e3 1 (.slice a3 n c3) n xs3, R, sl e2 1 (.slice (some ⟨b2, 0, none⟩) 1 1) 1 [y2]] → anyU P .any ops Q Sf u (k + 6) (l.setIfInBounds 15 true) (F.put (some 91) (.slice (some ⟨b2, 0, none⟩) 1 1)) w := by
  intro w b2 HS
  refine anyU_next rz15 (by simp) ?_
  refine NextU.cons h8 (fun K hK => ?_) ?_
  ·refine step_buildU g8 t1 e1 _ p8 i1 z1 ht1 hi1 hz1 hs1 ((At.keep (by decide) Y1)).ev ho1 HS (fun b1 w' HS => ?_)
   refine hK.out _ _ (fun _ => hkeep _ _ (HS.nth 1 rfl)) ?_
   rw [d8]
   rw [Act.put_swap _ 91 84 _ _ (by decide), Array.setIfInBounds_comm _ _ (show 15 ≠ 8 by decide)]
   exact z8_15 _ b1 b2 (HS.conv (by simp only [all, List.eraseIdx_cons_succ, List.eraseIdx_cons_zero]; ac_rfl))
  refine NextU.cons h21 (fun K hK => ?_) ?_
  ·refine step_makeMapU g21 tm3 p21 HS (fun m3 w' HS => ?_)
   refine hK.out _ _ (fun _ => hkeep _ _ (HS.nth 1 rfl)) ?_
   rw [d21]
   exact z15_21 _ b2 m3 (HS.conv (by simp only [all, List.eraseIdx_cons_succ, List.eraseIdx_cons_zero]; ac_rfl))
  exact NextU.nil
 have z21 : ∀ (w : World) (m3 : Nat), S w0 w [X, sl e1 1 (.slice a1 n c1) n xs1, sl e2 1 (.slice a2 n c2) n xs2, sl e3 1 (.slice a3 n c3) n xs3, mp Sep.encI (fun _ => True) m3 [], R] → anyU P .any ops Q Sf u (k + 6) (l.setIfInBounds 21 true) (F.put (some 97) (.map (some m3))) w := by
  intro w m3 HS
  refine anyU_next rz21 (by simp) ?_
  refine NextU.cons h8 (fun K hK => ?_) ?_
  ·refine step_buildU g8 t1 e1 _ p8 i1 z1 ht1 hi1 hz1 hs1 ((At.keep (by decide) Y1)).ev ho1 HS (fun b1 w' HS => ?_)
   refine hK.out _ _ (fun _ => hkeep _ _ (HS.nth 1 rfl)) ?_
   rw [d8]
   rw [Act.put_swap _ 97 84 _ _ (by decide), Array.setIfInBounds_comm _ _ (show 21 ≠ 8 by decide)]
   exact z8_21 _ b1 m3 (HS.conv (by simp only [all, List.eraseIdx_cons_succ, List.eraseIdx_cons_zero]; ac_rfl))
  refine NextU.cons h15 (fun K hK => ?_) ?_
  ·refine step_buildU g15 t2 e2 _ p15 i2 z2 ht2 hi2 hz2 hs2 ((At.keep (by decide) Y2)).ev ho2 HS (fun b2 w' HS => ?_)
   refine hK.out _ _ (fun _ => hkeep _ _ (HS.nth 1 rfl)) ?_
   rw [d15]
   rw [Act.put_swap _ 97 91 _ _ (by decide), Array.setIfInBounds_comm _ _ (show 21 ≠ 15 by decide)]
   exact z15_21 _ b2 m3 (HS.conv (by simp only [all, List.eraseIdx_cons_succ, List.eraseIdx_cons_zero]; ac_rfl))
  refine NextU.cons h22 (fun K hK => ?_) ?_
  ·refine step_buildU g22 t3 e3 _ p22 i3 z3 ht3 hi3 hz3 hs3 ((At.new (by simpa only [Act.put_size] using s21))).ev rfl HS (fun b3 w' HS => ?_)
   refine hK.out _ _ (fun _ => hkeep _ _ (HS.nth 1 rfl)) ?_
   rw [d22]
   exact z21_22 _ m3 b3 (HS.conv (by simp only [all, List.eraseIdx_cons_succ, List.eraseIdx_cons_zero]; ac_rfl))
  exact NextU.nil
 have z : ∀ (w : World), S w0 w [X, sl e1 1 (.slice a1 n c1) n xs1, sl e2 1 (.slice a2 n c2) n xs2, sl e3 1 (.slice a3 n c3) n xs3, R] → anyU P .any ops Q Sf u (k + 7) l F w := by
  intro w HS
  refine anyU_next rz (by simp) ?_
  refine NextU.cons h8 (fun K hK => ?_) ?_
  ·refine step_buildU g8 t1 e1 _ p8 i1 z1 ht1 hi1 hz1 hs1 (Y1).ev ho1 HS (fun b1 w' HS => ?_)
   refine hK.out _ _ (fun _ => hkeep _ _ (HS.nth 1 rfl)) ?_
   rw [d8]
   exact z8 _ b1 (HS.conv (by simp only [all, List.eraseIdx_cons_succ, List.eraseIdx_cons_zero]; ac_rfl))
  refine NextU.cons h15 (fun K hK => ?_) ?_
  ·refine step_buildU g15 t2 e2 _ p15 i2 z2 ht2 hi2 hz2 hs2 (Y2).ev ho2 HS (fun b2 w' HS => ?_)
   refine hK.out _ _ (fun _ => hkeep _ _ (HS.nth 1 rfl)) ?_
   rw [d15]
   exact z15 _ b2 (HS.conv (by simp only [all, List.eraseIdx_cons_succ, List.eraseIdx_cons_zero]; ac_rfl))
  refine NextU.cons h21 (fun K hK => ?_) ?_
  ·refine step_makeMapU g21 tm3 p21 HS (fun m3 w' HS => ?_)
   refine hK.out _ _ (fun _ => hkeep _ _ (HS.nth 1 rfl)) ?_
   rw [d21]
   exact z21 _ m3 (HS.conv (by simp only [all, List.eraseIdx_cons_succ, List.eraseIdx_cons_zero]; ac_rfl))
  exact NextU.nil
 exact z w h
set_option linter.unusedSimpArgs false in
set_option maxHeartbeats 4000000 in
theorem region_b {P : Program} {ops : Array Oper} {Q : Exit → Act → World → Prop} {Sf : World → Prop} {u k n : Nat} {F : Act} {l : Array Bool} {w0 : World} {X R : HProp}
  (hkeep : ∀ w M, S w0 w (X :: M) → Sf w) (hn : n + 1 ≤ 1000000000000)
  (t1 e1 : TypeId) (i1 : TypeInfo) (z1 : Value) (by1 : Nat) (ht1 : P.underlying t1 = some (.slice e1)) (hi1 : P.info? e1 = some i1) (hz1 : i1.zero = some z1) (hs1 : i1.size = 1) (hy1 : i1.bytes = by1) (hc1 : z1.cells.size = 1) (hb1 : by1 ≤ 100)
  (a1 : Option Addr) (c1 : Nat) (xs1 : List Value) (y1 : Value) (ho1 : y1.oneCell' = true)
  (A1 : At F 112 (.slice a1 n c1))
  (t2 e2 : TypeId) (i2 : TypeInfo) (z2 : Value) (by2 : Nat) (ht2 : P.underlying t2 = some (.slice e2)) (hi2 : P.info? e2 = some i2) (hz2 : i2.zero = some z2) (hs2 : i2.size = 1) (hy2 : i2.bytes = by2) (hc2 : z2.cells.size = 1) (hb2 : by2 ≤ 100)
  (a2 : Option Addr) (c2 : Nat) (xs2 : List Value) (y2 : Value) (ho2 : y2.oneCell' = true)
  (A2 : At F 118 (.slice a2 n c2)) (Y2 : At F 122 y2)
  (t3 e3 : TypeId) (i3 : TypeInfo) (z3 : Value) (by3 : Nat) (ht3 : P.underlying t3 = some (.slice e3)) (hi3 : P.info? e3 = some i3) (hz3 : i3.zero = some z3) (hs3 : i3.size = 1) (hy3 : i3.bytes = by3) (hc3 : z3.cells.size = 1) (hb3 : by3 ≤ 100)
  (a3 : Option Addr) (c3 : Nat) (xs3 : List Value) (y3 : Value) (ho3 : y3.oneCell' = true)
  (A3 : At F 128 (.slice a3 n c3))
  (o7 : Oper) (h7 : ops[7]? = some o7) (g7 : o7.guard = none) (p7 : o7.op = .buildSlice t1 1 #[(0, .const y1)]) (d7 : o7.dst = some 113) (s7 : 113 < F.tmps.size)
  (o8 : Oper) (h8 : ops[8]? = some o8) (g8 : o8.guard = none) (p8 : o8.op = .call { callee := .builtin .append, args := #[.tmp 112, .tmp 113], argTypes := #[t1, t1] }) (d8 : o8.dst = some 114)
  (o17 : Oper) (h17 : ops[17]? = some o17) (g17 : o17.guard = none) (p17 : o17.op = .buildSlice t2 1 #[(0, .tmp 122)]) (d17 : o17.dst = some 123) (s17 : 123 < F.tmps.size)
  (o18 : Oper) (h18 : ops[18]? = some o18) (g18 : o18.guard = none) (p18 : o18.op = .call { callee := .builtin .append, args := #[.tmp 118, .tmp 123], argTypes := #[t2, t2] }) (d18 : o18.dst = some 124)
  (o23 : Oper) (h23 : ops[23]? = some o23) (g23 : o23.guard = none) (p23 : o23.op = .buildSlice t3 1 #[(0, .const y3)]) (d23 : o23.dst = some 129) (s23 : 129 < F.tmps.size)
  (o24 : Oper) (h24 : ops[24]? = some o24) (g24 : o24.guard = none) (p24 : o24.op = .call { callee := .builtin .append, args := #[.tmp 128, .tmp 129], argTypes := #[t3, t3] }) (d24 : o24.dst = some 130)
  (rz7_8_17_18_23 : Region.ready .any ops (((((l.setIfInBounds 7 true).setIfInBounds 8 true).setIfInBounds 17 true).setIfInBounds 18 true).setIfInBounds 23 true) = [24])
  (rz7_8_17_18 : Region.ready .any ops ((((l.setIfInBounds 7 true).setIfInBounds 8 true).setIfInBounds 17 true).setIfInBounds 18 true) = [23])
  (rz7_8_17_23 : Region.ready .any ops ((((l.setIfInBounds 7 true).setIfInBounds 8 true).setIfInBounds 17 true).setIfInBounds 23 true) = [18])
  (rz7_8_17 : Region.ready .any ops (((l.setIfInBounds 7 true).setIfInBounds 8 true).setIfInBounds 17 true) = [18, 23])
  (rz7_8_23 : Region.ready .any ops (((l.setIfInBounds 7 true).setIfInBounds 8 true).setIfInBounds 23 true) = [17])
  (rz7_17_23 : Region.ready .any ops (((l.setIfInBounds 7 true).setIfInBounds 17 true).setIfInBounds 23 true) = [8])
  (rz7_8 : Region.ready .any ops ((l.setIfInBounds 7 true).setIfInBounds 8 true) = [17, 23])
  (rz7_17 : Region.ready .any ops ((l.setIfInBounds 7 true).setIfInBounds 17 true) = [8, 23])
  (rz7_23 : Region.ready .any ops ((l.setIfInBounds 7 true).setIfInBounds 23 true) = [8, 17])
  (rz17_23 : Region.ready .any ops ((l.setIfInBounds 17 true).setIfInBounds 23 true) = [7])
  (rz7 : Region.ready .any ops (l.setIfInBounds 7 true) = [8, 17, 23])
  (rz17 : Region.ready .any ops (l.setIfInBounds 17 true) = [7, 23])
  (rz23 : Region.ready .any ops (l.setIfInBounds 23 true) = [7, 17])
  (rz : Region.ready .any ops l = [7, 17, 23])
  (hend : ∀ (w : World) (b1 : Nat) (v1 : Value) (b2 : Nat) (v2 : Value) (b3 : Nat) (v3 : Value), S w0 w [X, sl e1 1 v1 (n + 1) (xs1 ++ [y1]), sl e2 1 v2 (n + 1) (xs2 ++ [y2]), sl e3 1 v3 (n + 1) (xs3 ++ [y3]), R, sl e1 1 (.slice (some ⟨b1, 0, none⟩) 1 1) 1 [y1], sl e2 1 (.slice (some ⟨b2, 0, none⟩) 1 1) 1 [y2], sl e3 1 (.slice (some ⟨b3, 0, none⟩) 1 1) 1 [y3]] → anyU P .any ops Q Sf u (k + 0) ((((((l.setIfInBounds 7 true).setIfInBounds 8 true).setIfInBounds 17 true).setIfInBounds 18 true).setIfInBounds 23 true).setIfInBounds 24 true) ((((((F.put (some 113) (.slice (some ⟨b1, 0, none⟩) 1 1)).put (some 114) v1).put (some 123) (.slice (some ⟨b2, 0, none⟩) 1 1)).put (some 124) v2).put (some 129) (.slice (some ⟨b3, 0, none⟩) 1 1)).put (some 130) v3) w)
  (w : World) (h : S w0 w [X, sl e1 1 (.slice a1 n c1) n xs1, sl e2 1 (.slice a2 n c2) n xs2, sl e3 1 (.slice a3 n c3) n xs3, R]) : anyU P .any ops Q Sf u (k + 6) l F w := by
 have z7_8_17_18_23_24 := hend
 have z7_8_17_18_23 : ∀ (w : World) (b1 : Nat) (v1 : Value) (b2 : Nat) (v2 : Value) (b3 : Nat), S w0 w [X, sl e1 1 v1 (n + 1) (xs1 ++ [y1]), sl e2 1 v2 (n + 1) (xs2 ++ [y2]), sl e3 1 (.slice a3 n c3) n xs3, R, sl e1 1 (.slice (some ⟨b1, 0, none⟩) 1 1) 1 [y1], sl e2 1 (.slice (some ⟨b2, 0, none⟩) 1 1) 1 [y2], sl e3 1 (.slice (some ⟨b3, 0, none⟩) 1 1) 1 [y3]] → anyU P .any ops Q Sf u (k + 1) (((((l.setIfInBounds 7 true).setIfInBounds 8 true).setIfInBounds 17 true).setIfInBounds 18 true).setIfInBounds 23 true) (((((F.put (some 113) (.slice (some ⟨b1, 0, none⟩) 1 1)).put (some 114) v1).put (some 123) (.slice (some ⟨b2, 0, none⟩) 1 1)).put (some 124) v2).put (some 129) (.slice (some ⟨b3, 0, none⟩) 1 1)) w := by
  intro w b1 v1 b2 v2 b3 HS
  refine anyU_next rz7_8_17_18_23 (by simp) ?_
  refine NextU.cons h24 (fun K hK => ?_) ?_
  ·refine step_appU g24 (.tmp 128) (.tmp 129) t3 p24 e3 i3 z3 1 by3 ht3 hi3 hz3 hs3 hy3 hc3 (by decide) HS 3 rfl ((At.keep (by decide) (At.keep (by decide) (At.keep (by decide) (At.keep (by decide) (At.keep (by decide) A3)))))).ev _ 1 1 [y3] ((At.new (by simpa only [Act.put_size] using s23))).ev rfl (HS.news_slK 7 rfl) (one_val ho3) hn hb3 (fun v3 w' HS => ?_)
   refine hK.out _ _ (fun _ => hkeep _ _ (HS.nth 1 rfl)) ?_
   rw [d24]
   exact z7_8_17_18_23_24 _ b1 v1 b2 v2 b3 v3 (HS.conv (by simp only [all, List.eraseIdx_cons_succ, List.eraseIdx_cons_zero]; ac_rfl))
  exact NextU.nil
 have z7_8_17_18 : ∀ (w : World) (b1 : Nat) (v1 : Value) (b2 : Nat) (v2 : Value), S w0 w [X, sl e1 1 v1 (n + 1) (xs1 ++ [y1]), sl e2 1 v2 (n + 1) (xs2 ++ [y2]), sl e3 1 (.slice a3 n c3) n xs3, R, sl e1 1 (.slice (some ⟨b1, 0, none⟩) 1 1) 1 [y1], sl e2 1 (.slice (some ⟨b2, 0, none⟩) 1 1) 1 [y2]] → anyU P .any ops Q Sf u (k + 2) ((((l.setIfInBounds 7 true).setIfInBounds 8 true).setIfInBounds 17 true).setIfInBounds 18 true) ((((F.put (some 113) (.slice (some ⟨b1, 0, none⟩) 1 1)).put (some 114) v1).put (some 123) (.slice (some ⟨b2, 0, none⟩) 1 1)).put (some 124) v2) w := by
  intro w b1 v1 b2 v2 HS
  refine anyU_next rz7_8_17_18 (by simp) ?_
  refine NextU.cons h23 (fun K hK => ?_) ?_
  ·refine step_buildU g23 t3 e3 _ p23 i3 z3 ht3 hi3 hz3 hs3 rfl ho3 HS (fun b3 w' HS => ?_)
   refine hK.out _ _ (fun _ => hkeep _ _ (HS.nth 1 rfl)) ?_
   rw [d23]
   exact z7_8_17_18_23 _ b1 v1 b2 v2 b3 (HS.conv (by simp only [all, List.eraseIdx_cons_succ, List.eraseIdx_cons_zero]; ac_rfl))
  exact NextU.nil
 have z7_8_17_23 : ∀ (w : World) (b1 : Nat) (v1 : Value) (b2 : Nat) (b3 : Nat), S w0 w [X, sl e1 1 v1 (n + 1) (xs1 ++ [y1]), sl e2 1 (.slice a2 n c2) n xs2, sl e3 1 (.slice a3 n c3) n xs3, R, sl e1 1 (.slice (some ⟨b1, 0, none⟩) 1 1) 1 [y1], sl e2 1 (.slice (some ⟨b2, 0, none⟩) 1 1) 1 [y2], sl e3 1 (.slice (some ⟨b3, 0, none⟩) 1 1) 1 [y3]] → anyU P .any ops Q Sf u (k + 2) ((((l.setIfInBounds 7 true).setIfInBounds 8 true).setIfInBounds 17 true).setIfInBounds 23 true) ((((F.put (some 113) (.slice (some ⟨b1, 0, none⟩) 1 1)).put (some 114) v1).put (some 123) (.slice (some ⟨b2, 0, none⟩) 1 1)).put (some 129) (.slice (some ⟨b3, 0, none⟩) 1 1)) w := by
  intro w b1 v1 b2 b3 HS
  refine anyU_next rz7_8_17_23 (by simp) ?_
  refine NextU.cons h18 (fun K hK => ?_) ?_
  ·refine step_appU g18 (.tmp 118) (.tmp 123) t2 p18 e2 i2 z2 1 by2 ht2 hi2 hz2 hs2 hy2 hc2 (by decide) HS 2 rfl ((At.keep (by decide) (At.keep (by decide) (At.keep (by decide) (At.keep (by decide) A2))))).ev _ 1 1 [y2] ((At.keep (by decide) (At.new (by simpa only [Act.put_size] using s17)))).ev rfl (HS.news_slK 6 rfl) (one_val ho2) hn hb2 (fun v2 w' HS => ?_)
   refine hK.out _ _ (fun _ => hkeep _ _ (HS.nth 1 rfl)) ?_
   rw [d18]
   rw [Act.put_swap _ 129 124 _ _ (by decide), Array.setIfInBounds_comm _ _ (show 23 ≠ 18 by decide)]
   exact z7_8_17_18_23 _ b1 v1 b2 v2 b3 (HS.conv (by simp only [all, List.eraseIdx_cons_succ, List.eraseIdx_cons_zero]; ac_rfl))
  exact NextU.nil
 have z7_8_17 : ∀ (w : World) (b1 : Nat) (v1 : Value) (b2 : Nat), S w0 w [X, sl e1 1 v1 (n + 1) (xs1 ++ [y1]), sl e2 1 (.slice a2 n c2) n xs2, sl e3 1 (.slice a3 n c3) n xs3, R, sl e1 1 (.slice (some ⟨b1, 0, none⟩) 1 1) 1 [y1], sl e2 1 (.slice (some ⟨b2, 0, none⟩) 1 1) 1 [y2]] → anyU P .any ops Q Sf u (k + 3) (((l.setIfInBounds 7 true).setIfInBounds 8 true).setIfInBounds 17 true) (((F.put (some 113) (.slice (some ⟨b1, 0, none⟩) 1 1)).put (some 114) v1).put (some 123) (.slice (some ⟨b2, 0, none⟩) 1 1)) w := by
  intro w b1 v1 b2 HS
  refine anyU_next rz7_8_17 (by simp) ?_
  refine NextU.cons h18 (fun K hK => ?_) ?_
  ·refine step_appU g18 (.tmp 118) (.tmp 123) t2 p18 e2 i2 z2 1 by2 ht2 hi2 hz2 hs2 hy2 hc2 (by decide) HS 2 rfl ((At.keep (by decide) (At.keep (by decide) (At.keep (by decide) A2)))).ev _ 1 1 [y2] ((At.new (by simpa only [Act.put_size] using s17))).ev rfl (HS.news_slK 6 rfl) (one_val ho2) hn hb2 (fun v2 w' HS => ?_)
   refine hK.out _ _ (fun _ => hkeep _ _ (HS.nth 1 rfl)) ?_
   rw [d18]
   exact z7_8_17_18 _ b1 v1 b2 v2 (HS.conv (by simp only [all, List.eraseIdx_cons_succ, List.eraseIdx_cons_zero]; ac_rfl))
  refine NextU.cons h23 (fun K hK => ?_) ?_
  ·refine step_buildU g23 t3 e3 _ p23 i3 z3 ht3 hi3 hz3 hs3 rfl ho3 HS (fun b3 w' HS => ?_)
   refine hK.out _ _ (fun _ => hkeep _ _ (HS.nth 1 rfl)) ?_
   rw [d23]
   exact z7_8_17_23 _ b1 v1 b2 b3 (HS.conv (by simp only [all, List.eraseIdx_cons_succ, List.eraseIdx_cons_zero]; ac_rfl))
  exact NextU.nil
 have z7_8_23 : ∀ (w : World) (b1 : Nat) (v1 : Value) (b3 : Nat), S w0 w [X, sl e1 1 v1 (n + 1) (xs1 ++ [y1]), sl e2 1 (.slice a2 n c2) n xs2, sl e3 1 (.slice a3 n c3) n xs3, R, sl e1 1 (.slice (some ⟨b1, 0, none⟩) 1 1) 1 [y1], sl e3 1 (.slice (some ⟨b3, 0, none⟩) 1 1) 1 [y3]] → anyU P .any ops Q Sf u (k + 3) (((l.setIfInBounds 7 true).setIfInBounds 8 true).setIfInBounds 23 true) (((F.put (some 113) (.slice (some ⟨b1, 0, none⟩) 1 1)).put (some 114) v1).put (some 129) (.slice (some ⟨b3, 0, none⟩) 1 1)) w := by
  intro w b1 v1 b3 HS
  refine anyU_next rz7_8_23 (by simp) ?_
  refine NextU.cons h17 (fun K hK => ?_) ?_
  ·refine step_buildU g17 t2 e2 _ p17 i2 z2 ht2 hi2 hz2 hs2 ((At.keep (by decide) (At.keep (by decide) (At.keep (by decide) Y2)))).ev ho2 HS (fun b2 w' HS => ?_)
   refine hK.out _ _ (fun _ => hkeep _ _ (HS.nth 1 rfl)) ?_
   rw [d17]
   rw [Act.put_swap _ 129 123 _ _ (by decide), Array.setIfInBounds_comm _ _ (show 23 ≠ 17 by decide)]
   exact z7_8_17_23 _ b1 v1 b2 b3 (HS.conv (by simp only [all, List.eraseIdx_cons_succ, List.eraseIdx_cons_zero]; ac_rfl))
  exact NextU.nil
 have z7_17_23 : ∀ (w : World) (b1 : Nat) (b2 : Nat) (b3 : Nat), S w0 w [X, sl e1 1 (.slice a1 n c1) n xs1, sl e2 1 (.slice a2 n c2) n xs2, sl e3 1 (.slice a3 n c3) n xs3, R, sl e1 1 (.slice (some ⟨b1, 0, none⟩) 1 1) 1 [y1], sl e2 1 (.slice (some ⟨b2, 0, none⟩) 1 1) 1 [y2], sl e3 1 (.slice (some ⟨b3, 0, none⟩) 1 1) 1 [y3]] → anyU P .any ops Q Sf u (k + 3) (((l.setIfInBounds 7 true).setIfInBounds 17 true).setIfInBounds 23 true) (((F.put (some 113) (.slice (some ⟨b1, 0, none⟩) 1 1)).put (some 123) (.slice (some ⟨b2, 0, none⟩) 1 1)).put (some 129) (.slice (some ⟨b3, 0, none⟩) 1 1)) w := by
  intro w b1 b2 b3 HS
  refine anyU_next rz7_17_23 (by simp) ?_
  refine NextU.cons h8 (fun K hK => ?_) ?_
  ·refine step_appU g8 (.tmp 112) (.tmp 113) t1 p8 e1 i1 z1 1 by1 ht1 hi1 hz1 hs1 hy1 hc1 (by decide) HS 1 rfl ((At.keep (by decide) (At.keep (by decide) (At.keep (by decide) A1)))).ev _ 1 1 [y1] ((At.keep (by decide) (At.keep (by decide) (At.new (by simpa only [Act.put_size] using s7))))).ev rfl (HS.news_slK 5 rfl) (one_val ho1) hn hb1 (fun v1 w' HS => ?_)
   refine hK.out _ _ (fun _ => hkeep _ _ (HS.nth 1 rfl)) ?_
   rw [d8]
   rw [Act.put_swap _ 129 114 _ _ (by decide), Array.setIfInBounds_comm _ _ (show 23 ≠ 8 by decide)]
   rw [Act.put_swap _ 123 114 _ _ (by decide), Array.setIfInBounds_comm _ _ (show 17 ≠ 8 by decide)]
   exact z7_8_17_23 _ b1 v1 b2 b3 (HS.conv (by simp only [all, List.eraseIdx_cons_succ, List.eraseIdx_cons_zero]; ac_rfl))
  exact NextU.nil
 have z7_8 : ∀ (w : World) (b1 : Nat) (v1 : Value), S w0 w [X, sl e1 1 v1 (n + 1) (xs1 ++ [y1]), sl e2 1 (.slice a2 n c2) n xs2, sl e3 1 (.slice a3 n c3) n xs3, R, sl e1 1 (.slice (some ⟨b1, 0, none⟩) 1 1) 1 [y1]] → anyU P .any ops Q Sf u (k + 4) ((l.setIfInBounds 7 true).setIfInBounds 8 true) ((F.put (some 113) (.slice (some ⟨b1, 0, none⟩) 1 1)).put (some 114) v1) w := by
  intro w b1 v1 HS
  refine anyU_next rz7_8 (by simp) ?_
  refine NextU.cons h17 (fun K hK => ?_) ?_
  ·refine step_buildU g17 t2 e2 _ p17 i2 z2 ht2 hi2 hz2 hs2 ((At.keep (by decide) (At.keep (by decide) Y2))).ev ho2 HS (fun b2 w' HS => ?_)
   refine hK.out _ _ (fun _ => hkeep _ _ (HS.nth 1 rfl)) ?_
   rw [d17]
   exact z7_8_17 _ b1 v1 b2 (HS.conv (by simp only [all, List.eraseIdx_cons_succ, List.eraseIdx_cons_zero]; ac_rfl))
  refine NextU.cons h23 (fun K hK => ?_) ?_
  ·refine step_buildU g23 t3 e3 _ p23 i3 z3 ht3 hi3 hz3 hs3 rfl ho3 HS (fun b3 w' HS => ?_)
   refine hK.out _ _ (fun _ => hkeep _ _ (HS.nth 1 rfl)) ?_
   rw [d23]
   exact z7_8_23 _ b1 v1 b3 (HS.conv (by simp only [all, List.eraseIdx_cons_succ, List.eraseIdx_cons_zero]; ac_rfl))
  exact NextU.nil
 have z7_17 : ∀ (w : World) (b1 : Nat) (b2 : Nat), S w0 w [X, sl e1 1 (.slice a1 n c1) n xs1, sl e2 1 (.slice a2 n c2) n xs2, sl e3 1 (.slice a3 n c3) n xs3, R, sl e1 1 (.slice (some ⟨b1, 0, none⟩) 1 1) 1 [y1], sl e2 1 (.slice (some ⟨b2, 0, none⟩) 1 1) 1 [y2]] → anyU P .any ops Q Sf u (k + 4) ((l.setIfInBounds 7 true).setIfInBounds 17 true) ((F.put (some 113) (.slice (some ⟨b1, 0, none⟩) 1 1)).put (some 123) (.slice (some ⟨b2, 0, none⟩) 1 1)) w := by
  intro w b1 b2 HS
  refine anyU_next rz7_17 (by simp) ?_
  refine NextU.cons h8 (fun K hK => ?_) ?_
  ·refine step_appU g8 (.tmp 112) (.tmp 113) t1 p8 e1 i1 z1 1 by1 ht1 hi1 hz1 hs1 hy1 hc1 (by decide) HS 1 rfl ((At.keep (by decide) (At.keep (by decide) A1))).ev _ 1 1 [y1] ((At.keep (by decide) (At.new (by simpa only [Act.put_size] using s7)))).ev rfl (HS.news_slK 5 rfl) (one_val ho1) hn hb1 (fun v1 w' HS => ?_)
   refine hK.out _ _ (fun _ => hkeep _ _ (HS.nth 1 rfl)) ?_
   rw [d8]
   rw [Act.put_swap _ 123 114 _ _ (by decide), Array.setIfInBounds_comm _ _ (show 17 ≠ 8 by decide)]
   exact z7_8_17 _ b1 v1 b2 (HS.conv (by simp only [all, List.eraseIdx_cons_succ, List.eraseIdx_cons_zero]; ac_rfl))
  refine NextU.cons h23 (fun K hK => ?_) ?_
  ·refine step_buildU g23 t3 e3 _ p23 i3 z3 ht3 hi3 hz3 hs3 rfl ho3 HS (fun b3 w' HS => ?_)
   refine hK.out _ _ (fun _ => hkeep _ _ (HS.nth 1 rfl)) ?_
   rw [d23]
   exact z7_17_23 _ b1 b2 b3 (HS.conv (by simp only [all, List.eraseIdx_cons_succ, List.eraseIdx_cons_zero]; ac_rfl))
  exact NextU.nil
 have z7_23 : ∀ (w : World) (b1 : Nat) (b3 : Nat), S w0 w [X, sl e1 1 (.slice a1 n c1) n xs1, sl e2 1 (.slice a2 n c2) n xs2, sl e3 1 (.slice a3 n c3) n xs3, R, sl e1 1 (.slice (some ⟨b1, 0, none⟩) 1 1) 1 [y1], sl e3 1 (.slice (some ⟨b3, 0, none⟩) 1 1) 1 [y3]] → anyU P .any ops Q Sf u (k + 4) ((l.setIfInBounds 7 true).setIfInBounds 23 true) ((F.put (some 113) (.slice (some ⟨b1, 0, none⟩) 1 1)).put (some 129) (.slice (some ⟨b3, 0, none⟩) 1 1)) w := by
  intro w b1 b3 HS
  refine anyU_next rz7_23 (by simp) ?_
  refine NextU.cons h8 (fun K hK => ?_) ?_
  ·refine step_appU g8 (.tmp 112) (.tmp 113) t1 p8 e1 i1 z1 1 by1 ht1 hi1 hz1 hs1 hy1 hc1 (by decide) HS 1 rfl ((At.keep (by decide) (At.keep (by decide) A1))).ev _ 1 1 [y1] ((At.keep (by decide) (At.new (by simpa only [Act.put_size] using s7)))).ev rfl (HS.news_slK 5 rfl) (one_val ho1) hn hb1 (fun v1 w' HS => ?_)
   refine hK.out _ _ (fun _ => hkeep _ _ (HS.nth 1 rfl)) ?_
   rw [d8]
   rw [Act.put_swap _ 129 114 _ _ (by decide), Array.setIfInBounds_comm _ _ (show 23 ≠ 8 by decide)]
   exact z7_8_23 _ b1 v1 b3 (HS.conv (by simp only [all, List.eraseIdx_cons_succ, List.eraseIdx_cons_zero]; ac_rfl))
  refine NextU.cons h17 (fun K hK => ?_) ?_
  ·refine step_buildU g17 t2 e2 _ p17 i2 z2 ht2 hi2 hz2 hs2 ((At.keep (by decide) (At.keep (by decide) Y2))).ev ho2 HS (fun b2 w' HS => ?_)
   refine hK.out _ _ (fun _ => hkeep _ _ (HS.nth 1 rfl)) ?_
   rw [d17]
   rw [Act.put_swap _ 129 123 _ _ (by decide), Array.setIfInBounds_comm _ _ (show 23 ≠ 17 by decide)]
   exact z7_17_23 _ b1 b2 b3 (HS.conv (by simp only [all, List.eraseIdx_cons_succ, List.eraseIdx_cons_zero]; ac_rfl))
  exact NextU.nil
 have z17_23 : ∀ (w : World) (b2 : Nat) (b3 : Nat), S w0 w [X, sl e1 1 (.slice a1 n c1) n xs1, sl e2 1 (.slice a2 n c2) n xs2, sl e3 1 (.slice a3 n c3) n xs3, R, sl e2 1 (.slice (some ⟨b2, 0, none⟩) 1 1) 1 [y2], sl e3 1 (.slice (some ⟨b3, 0, none⟩) 1 1) 1 [y3]] → anyU P .any ops Q Sf u (k + 4) ((l.setIfInBounds 17 true).setIfInBounds 23 true) ((F.put (some 123) (.slice (some ⟨b2, 0, none⟩) 1 1)).put (some 129) (.slice (some ⟨b3, 0, none⟩) 1 1)) w := by
  intro w b2 b3 HS
  refine anyU_next rz17_23 (by simp) ?_
  refine NextU.cons h7 (fun K hK => ?_) ?_
  ·refine step_buildU g7 t1 e1 _ p7 i1 z1 ht1 hi1 hz1 hs1 rfl ho1 HS (fun b1 w' HS => ?_)
   refine hK.out _ _ (fun _ => hkeep _ _ (HS.nth 1 rfl)) ?_
   rw [d7]
   rw [Act.put_swap _ 129 113 _ _ (by decide), Array.setIfInBounds_comm _ _ (show 23 ≠ 7 by decide)]
   rw [Act.put_swap _ 123 113 _ _ (by decide), Array.setIfInBounds_comm _ _ (show 17 ≠ 7 by decide)]
   exact z7_17_23 _ b1 b2 b3 (HS.conv (by simp only [all, List.eraseIdx_cons_succ, List.eraseIdx_cons_zero]; ac_rfl))
  exact NextU.nil
 have z7 : ∀ (w : World) (b1 : Nat), S w0 w [X, sl e1 1 (.slice a1 n c1) n xs1, sl e2 1 (.slice a2 n c2) n xs2, sl e3 1 (.slice a3 n c3) n xs3, R, sl e1 1 (.slice (some ⟨b1, 0, none⟩) 1 1) 1 [y1]] → anyU P .any ops Q Sf u (k + 5) (l.setIfInBounds 7 true) (F.put (some 113) (.slice (some ⟨b1, 0, none⟩) 1 1)) w := by
  intro w b1 HS
  refine anyU_next rz7 (by simp) ?_
  refine NextU.cons h8 (fun K hK => ?_) ?_
  ·refine step_appU g8 (.tmp 112) (.tmp 113) t1 p8 e1 i1 z1 1 by1 ht1 hi1 hz1 hs1 hy1 hc1 (by decide) HS 1 rfl ((At.keep (by decide) A1)).ev _ 1 1 [y1] ((At.new (by simpa only [Act.put_size] using s7))).ev rfl (HS.news_slK 5 rfl) (one_val ho1) hn hb1 (fun v1 w' HS => ?_)
   refine hK.out _ _ (fun _ => hkeep _ _ (HS.nth 1 rfl)) ?_
   rw [d8]
   exact z7_8 _ b1 v1 (HS.conv (by simp only [all, List.eraseIdx_cons_succ, List.eraseIdx_cons_zero]; ac_rfl))
  refine NextU.cons h17 (fun K hK => ?_) ?_
  ·refine step_buildU g17 t2 e2 _ p17 i2 z2 ht2 hi2 hz2 hs2 ((At.keep (by decide) Y2)).ev ho2 HS (fun b2 w' HS => ?_)
   refine hK.out _ _ (fun _ => hkeep _ _ (HS.nth 1 rfl)) ?_
   rw [d17]
   exact z7_17 _ b1 b2 (HS.conv (by simp only [all, List.eraseIdx_cons_succ, List.eraseIdx_cons_zero]; ac_rfl))
  refine NextU.cons h23 (fun K hK => ?_) ?_
  ·refine step_buildU g23 t3 e3 _ p23 i3 z3 ht3 hi3 hz3 hs3 rfl ho3 HS (fun b3 w' HS => ?_)
   refine hK.out _ _ (fun _ => hkeep _ _ (HS.nth 1 rfl)) ?_
   rw [d23]
   exact z7_23 _ b1 b3 (HS.conv (by simp only [all, List.eraseIdx_cons_succ, List.eraseIdx_cons_zero]; ac_rfl))
  exact NextU.nil
 have z17 : ∀ (w : World) (b2 : Nat), S w0 w [X, sl e1 1 (.slice a1 n c1) n xs1, sl e2 1 (.slice a2 n c2) n xs2, sl e3 1 (.slice a3 n c3) n xs3, R, sl e2 1 (.slice (some ⟨b2, 0, none⟩) 1 1) 1 [y2]] → anyU P .any ops Q Sf u (k + 5) (l.setIfInBounds 17 true) (F.put (some 123) (.slice (some ⟨b2, 0, none⟩) 1 1)) w := by
  intro w b2 HS
  refine anyU_next rz17 (by simp) ?_
  refine NextU.cons h7 (fun K hK => ?_) ?_
  ·refine step_buildU g7 t1 e1 _ p7 i1 z1 ht1 hi1 hz1 hs1 rfl ho1 HS (fun b1 w' HS => ?_)
   refine hK.out _ _ (fun _ => hkeep _ _ (HS.nth 1 rfl)) ?_
   rw [d7]
   rw [Act.put_swap _ 123 113 _ _ (by decide), Array.setIfInBounds_comm _ _ (show 17 ≠ 7 by decide)]
   exact z7_17 _ b1 b2 (HS.conv (by simp only [all, List.eraseIdx_cons_succ, List.eraseIdx_cons_zero]; ac_rfl))
  refine NextU.cons h23 (fun K hK => ?_) ?_
  ·refine step_buildU g23 t3 e3 _ p23 i3 z3 ht3 hi3 hz3 hs3 rfl ho3 HS (fun b3 w' HS => ?_)
   refine hK.out _ _ (fun _ => hkeep _ _ (HS.nth 1 rfl)) ?_
   rw [d23]
   exact z17_23 _ b2 b3 (HS.conv (by simp only [all, List.eraseIdx_cons_succ, List.eraseIdx_cons_zero]; ac_rfl))
  exact NextU.nil
 have z23 : ∀ (w : World) (b3 : Nat), S w0 w [X, sl e1 1 (.slice a1 n c1) n xs1, sl e2 1 (.slice a2 n c2) n xs2, sl e3 1 (.slice a3 n c3) n xs3, R, sl e3 1 (.slice (some ⟨b3, 0, none⟩) 1 1) 1 [y3]] → anyU P .any ops Q Sf u (k + 5) (l.setIfInBounds 23 true) (F.put (some 129) (.slice (some ⟨b3, 0, none⟩) 1 1)) w := by
  intro w b3 HS
  refine anyU_next rz23 (by simp) ?_
  refine NextU.cons h7 (fun K hK => ?_) ?_
  ·refine step_buildU g7 t1 e1 _ p7 i1 z1 ht1 hi1 hz1 hs1 rfl ho1 HS (fun b1 w' HS => ?_)
   refine hK.out _ _ (fun _ => hkeep _ _ (HS.nth 1 rfl)) ?_
   rw [d7]
   rw [Act.put_swap _ 129 113 _ _ (by decide), Array.setIfInBounds_comm _ _ (show 23 ≠ 7 by decide)]
   exact z7_23 _ b1 b3 (HS.conv (by simp only [all, List.eraseIdx_cons_succ, List.eraseIdx_cons_zero]; ac_rfl))
  refine NextU.cons h17 (fun K hK => ?_) ?_
  ·refine step_buildU g17 t2 e2 _ p17 i2 z2 ht2 hi2 hz2 hs2 ((At.keep (by decide) Y2)).ev ho2 HS (fun b2 w' HS => ?_)
   refine hK.out _ _ (fun _ => hkeep _ _ (HS.nth 1 rfl)) ?_
   rw [d17]
   rw [Act.put_swap _ 129 123 _ _ (by decide), Array.setIfInBounds_comm _ _ (show 23 ≠ 17 by decide)]
   exact z17_23 _ b2 b3 (HS.conv (by simp only [all, List.eraseIdx_cons_succ, List.eraseIdx_cons_zero]; ac_rfl))
  exact NextU.nil
 have z : ∀ (w : World), S w0 w [X, sl e1 1 (.slice a1 n c1) n xs1, sl e2 1 (.slice a2 n c2) n xs2, sl e3 1 (.slice a3 n c3) n xs3, R] → anyU P .any ops Q Sf u (k + 6) l F w := by
  intro w HS
  refine anyU_next rz (by simp) ?_
  refine NextU.cons h7 (fun K hK => ?_) ?_
  ·refine step_buildU g7 t1 e1 _ p7 i1 z1 ht1 hi1 hz1 hs1 rfl ho1 HS (fun b1 w' HS => ?_)
   refine hK.out _ _ (fun _ => hkeep _ _ (HS.nth 1 rfl)) ?_
   rw [d7]
   exact z7 _ b1 (HS.conv (by simp only [all, List.eraseIdx_cons_succ, List.eraseIdx_cons_zero]; ac_rfl))
  refine NextU.cons h17 (fun K hK => ?_) ?_
  ·refine step_buildU g17 t2 e2 _ p17 i2 z2 ht2 hi2 hz2 hs2 (Y2).ev ho2 HS (fun b2 w' HS => ?_)
   refine hK.out _ _ (fun _ => hkeep _ _ (HS.nth 1 rfl)) ?_
   rw [d17]
   exact z17 _ b2 (HS.conv (by simp only [all, List.eraseIdx_cons_succ, List.eraseIdx_cons_zero]; ac_rfl))
  refine NextU.cons h23 (fun K hK => ?_) ?_
  ·refine step_buildU g23 t3 e3 _ p23 i3 z3 ht3 hi3 hz3 hs3 rfl ho3 HS (fun b3 w' HS => ?_)
   refine hK.out _ _ (fun _ => hkeep _ _ (HS.nth 1 rfl)) ?_
   rw [d23]
   exact z23 _ b3 (HS.conv (by simp only [all, List.eraseIdx_cons_succ, List.eraseIdx_cons_zero]; ac_rfl))
  exact NextU.nil
 exact z w h
end Go.Sep
