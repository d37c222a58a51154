/- order.Edges: the library's search and sort at its slices. -/
import Derived.Test.YthdiphfbjlooaaaDoorOrdA
namespace Go.Proofs.YthdiphfbjlooaaaDoor
open Go Go.RowKit Go.Sep Go.Shelf Go.Lib Go.Sort

theorem pcells_W2 : ∀ ls : List W2, pcells (ls.map (·.1)) = ls.flatMap encW
  | [] => rfl
  | p :: ls => by
    have := pcells_W2 ls
    simp only [pcells, List.map_cons, List.flatMap_cons] at this ⊢
    rw [this]; rfl
def boundP (p : Int × Int) : Prop := (0 ≤ p.1 ∧ p.1 ≤ 9223372036854775807) ∧ (0 ≤ p.2 ∧ p.2 ≤ 9223372036854775807)
theorem toW2 {l : List (Int × Int)} (h : ∀ p ∈ l, boundP p) : ∃ ls : List W2, ls.map (·.1) = l := by
  induction l with
  | nil => exact ⟨[], rfl⟩
  | cons p l ih =>
    obtain ⟨ls, hl⟩ := ih fun p hp => h p (by simp [hp])
    exact ⟨⟨p, h p (by simp)⟩ :: ls, by simp [hl]⟩
theorem Tryd.entersCmp : ∀ args w, (callFunc 61 args).run Tryd.prog w = .ok (.enter 61 args) w := enters_of Tryd.func61 (by kernel_rfl) rfl
theorem sortW_any (w0 w : World) (v : Value) (l : List (Int × Int)) (L : List HProp) (hs : S w0 w (sl 31 2 v l.length (pcells l) :: L)) (hb : l.length ≤ 1000000) (hp : ∀ p ∈ l, boundP p) :
    Calls Tryd.prog 60 #[v, .func (.func 61) #[] #[]] w fun e w' => e = .returned (.tuple #[]) ∧ ∃ srt : List (Int × Int), srt.Perm l ∧ srt.Pairwise leP ∧ S w0 w' (sl 31 2 v srt.length (pcells srt) :: L) := by
  rcases Nat.eq_zero_or_pos l.length with h0 | hpos
  · obtain rfl := List.eq_nil_of_length_eq_zero h0
    obtain ⟨a, cap, rfl, _⟩ := hs.sl_val
    exact (AnyF.slices_SortFunc_none Tryd.sortW a cap _ w).mono fun e w' ⟨h1, h2⟩ => ⟨h1, [], List.Perm.refl _, List.Pairwise.nil, by rw [h2]; exact hs⟩
  · obtain ⟨ls, rfl⟩ := toW2 hp
    rw [List.length_map] at hs hpos hb
    rw [pcells_W2] at hs
    have hlen : (ls.flatMap encW).length = ls.length * 2 := by rw [← pcells_W2, pcells_length, List.length_map]
    obtain ⟨g, o, cap, rfl, _⟩ := hs.sl_some (by omega)
    obtain ⟨h1, h2, h3⟩ := hs.sl_row
    have hH : HoldsK encW 2 w g o ls.toArray := by
      unfold HoldsK
      rw [flatK_eq encW 2 (fun _ => rfl) (by omega)]
      exact h1
    have hcon := AnyQ.slices_SortFunc_total Tryd.sortW 2 Tryd.isAgg31 Tryd.sizeOf31 encW (fun _ => rfl) (fun x v hv => by simp [encW] at hv; rcases hv with rfl | rfl <;> rfl) cfW swoW 61 #[] g o cap ls.toArray w
      Tryd.entersCmp (fun _ _ _ _ x y => cmp_any x y _) hH h2 (by simpa using (by omega : ls.length < 4611686018427387904)) totW
    refine Calls.mono hcon fun e w' ⟨he, n, os, hw⟩ => ⟨he, ?_⟩
    have hsz : ls.toArray.size = ls.length := by simp
    let srt := ls.mergeSort fun x y => !(ltOf cfW) y x
    have hperm : srt.Perm ls := List.mergeSort_perm _ _
    have hsl : srt.length = ls.length := hperm.length_eq
    refine ⟨srt.map (·.1), hperm.map _, ?_, ?_⟩
    · have hpw : srt.Pairwise fun x y => (!(ltOf cfW) y x) = true := by
        refine List.pairwise_mergeSort ?_ ?_ ls
        · intro a b c h1 h2
          rw [Bool.not_eq_true', ltW, decide_eq_false_iff_not] at *
          unfold ltP at *; omega
        · intro a b
          rw [ltW, ltW]
          by_cases h : ltP b.1 a.1
          · have : ¬ ltP a.1 b.1 := fun h2 => h.asymm h2
            simp [h, this]
          · simp [h]
      rw [List.pairwise_map]
      refine hpw.imp fun {a b} h => ?_
      rw [Bool.not_eq_true', ltW, decide_eq_false_iff_not] at h
      unfold ltP at h; unfold leP; omega
    · rw [hw, List.length_map, hsl, pcells_W2]
      have h5 := h3 (srt.flatMap encW) n os (by rw [hlen, ← hsl, ← List.length_map (f := fun x : W2 => x.1), ← pcells_length, pcells_W2])
      have e : sortWorldK encW 2 w g o n srt.toArray os = grow (putRow id (Sort.ahead w n) g o (srt.flatMap encW).toArray) os := by
        unfold sortWorldK putRowK
        rw [flatK_eq encW 2 (fun _ => rfl) (by omega)]
      rw [show (List.mergeSort ls.toArray.toList fun x y => !(ltOf cfW) y x) = srt by simp [srt], e]
      exact h5

/-- The first op that may not be (-1: none). -/
def badIx (l : List Op1) : Int := Lib.idxBy (fun _ y => badOp y) l default
theorem badIx_cases (l : List Op1) : (badIx l = -1 ∧ ∀ o ∈ l, badOp o = false) ∨ ∃ k : Nat, badIx l = k ∧ k < l.length ∧ ∃ o, l[k]? = some o ∧ badOp o = true ∧ ∀ j < k, ∀ o, l[j]? = some o → badOp o = false := by
  rcases hf : l.findIdx? badOp with _ | k
  · left
    rw [List.findIdx?_eq_none_iff] at hf
    refine ⟨?_, fun o ho => by simpa using hf o ho⟩
    unfold badIx Lib.idxBy
    refine Lib.idxByFrom_miss _ _ l 0 fun j hj => ?_
    rw [getElem!_pos l j hj]
    simpa using hf _ (List.getElem_mem hj)
  · right
    rw [List.findIdx?_eq_some_iff_getElem] at hf
    obtain ⟨hk, h1, h2⟩ := hf
    refine ⟨k, ?_, hk, l[k], by simp [hk], h1, fun j hj o ho => ?_⟩
    · unfold badIx Lib.idxBy
      have := Lib.idxByFrom_hit (fun _ y => badOp y) default l k 0 hk (by rw [getElem!_pos l k hk]; exact h1) (fun j hj => by rw [getElem!_pos l j (by omega)]; simpa using h2 j hj)
      simpa using this
    · obtain ⟨hj2, rfl⟩ := List.getElem?_eq_some_iff.1 ho
      simpa using h2 j hj
theorem ocells_length (o : Op1) : (ocells o).length = 4 := rfl
theorem Tryd.entersBad : ∀ args w, (callFunc 57 args).run Tryd.prog w = .ok (.enter 57 args) w := enters_of Tryd.func57 (by kernel_rfl) rfl

theorem badnil_any (w : World) (a : Option Addr) (cap : Nat) : Calls Tryd.prog 56 #[.slice a 0 cap, .func (.func 57) #[] #[]] w fun e w' => e = .returned (.int .i64 (-1)) ∧ w = w' := by
  go_enter Tryd.func56, Tryd.ntmps56
  go_wp2_with fail
  go_loopw [8] (fun x wr => x = .int .i64 0 ∧ wr = w) (fun _ _ => 0)
  case atStart => exact ⟨rfl, rfl⟩
  case round =>
    obtain ⟨rfl, rfl⟩ := hrel
    go_wp2_with fail
    go_ret
    exact ⟨rfl, rfl⟩
theorem bad_any (w0 w : World) (v : Value) (l : List Op1) (L : List HProp) (hs : S w0 w L) (hr : RdK w0 L v l.length (fcells ocells l)) (hb : l.length ≤ 1000000) :
    Calls Tryd.prog 56 #[v, .func (.func 57) #[] #[]] w fun e w' => e = .returned (.int .i64 (badIx l)) ∧ S w0 w' L := by
  obtain ⟨a, cap, rfl, hcap, hcap2, hrd⟩ := hr w hs
  rcases Nat.eq_zero_or_pos l.length with h0 | hpos
  · obtain rfl := List.eq_nil_of_length_eq_zero h0
    exact (badnil_any w a cap).mono fun e w' ⟨h1, h2⟩ => ⟨h1, by rw [← h2]; exact hs⟩
  · obtain ⟨b, o, rfl, hcell⟩ := hr.fc ocells_length hs (show l[0]? = some l[0] by simp [hpos]) (by omega)
    have hblt : b < w.heap.size := World.block_lt_of_cell? w _ (hcell w hs 0 _ rfl)
    have hcon := AnyQ.slices_IndexFunc Tryd.ixOp 4 Tryd.isAgg65 Tryd.sizeOf65 ocells ocells_length badOp 57 #[] Tryd.entersBad b o l.length cap l w
      (bad_pred w) (Nat.le_refl _) (by omega) hblt (fun j hj i v hi => by
        rw [getElem!_pos l j hj] at hi
        obtain ⟨b', o', hbo, hc'⟩ := hr.fc ocells_length hs (show l[j]? = some l[j] by simp [hj]) (by omega)
        simp only [Option.some.injEq, Addr.mk.injEq] at hbo
        obtain ⟨rfl, rfl, -⟩ := hbo
        exact hc' w hs i v hi)
    rw [List.take_length] at hcon
    exact Calls.mono hcon fun e w' ⟨h1, h2⟩ => ⟨h1, hs.onto h2⟩

theorem ixint_any (w0 w : World) (v : Value) (l : List Int) (x : Int) (L : List HProp) (hs : S w0 w L) (hr : RdK w0 L v l.length (icells l)) (hb : l.length ≤ 1000000) :
    Calls Tryd.prog 59 #[v, .int .i64 x] w fun e w' => e = .returned (.int .i64 (Lib.idxOf l x)) ∧ w = w' := by
  obtain ⟨a, cap, rfl, hcap, hcap2, hrd⟩ := hr w hs
  rcases Nat.eq_zero_or_pos l.length with h0 | hpos
  · obtain rfl := List.eq_nil_of_length_eq_zero h0
    exact (Tryd.slices_Index_int_empty a cap x w).mono fun e w' ⟨h1, h2⟩ => ⟨h1, h2.symm⟩
  · obtain ⟨b, o, hbo, _⟩ := hrd 0 _ (icells_at (show l[0]? = some l[0] by simp [hpos]))
    subst hbo
    have hcon := Tryd.slices_Index_int b o l.length cap l x w (Nat.le_refl _) (by omega) (fun j hj => by
      obtain ⟨b', o', hbo, hc'⟩ := hrd j _ (icells_at (show l[j]? = some l[j] by simp [hj]))
      simp only [Option.some.injEq, Addr.mk.injEq] at hbo
      obtain ⟨rfl, rfl, -⟩ := hbo
      rw [hc']; simp [List.getD, hj])
    rw [List.take_length] at hcon
    exact hcon.mono fun e w' ⟨h1, h2⟩ => ⟨h1, h2.symm⟩
end Go.Proofs.YthdiphfbjlooaaaDoor
