/- The reference's edges: its sort. -/
import Derived.Test.YthdiphfbjlooaaaDoorOrdB
import Derived.Test.YthdiphfbjlooaaaDoorOrdR
import Derived.BigQuiet
import Derived.Shelf.SlSortFuncK.WholeK
import Derived.Shelf.GgSortFunc.Tiny
import Derived.Test.YthdiphfbjlooaaaDoorSortS
import Derived.Lib.AppendIntMem
namespace Go.Proofs.YthdiphfbjlooaaaDoor
open Go Go.RowKit Go.Sep Go.Shelf Go.Lib Go.Sort

def encQ (p : Int × Int) : List Value := [.int .i64 p.1, .int .i64 p.2]
theorem pcells_Q (l : List (Int × Int)) : pcells l = l.flatMap encQ := rfl
def ltQ (p q : Int × Int) : Bool := decide (ltP p q)
theorem swoQ : SWO ltQ where
  irrefl x := by unfold ltQ; simpa using ltP.irrefl x
  trans x y z h1 h2 := by unfold ltQ at *; simp only [decide_eq_true_eq] at *; exact h1.trans h2
  ntrans x y z h1 h2 := by unfold ltQ at *; rw [decide_eq_false_iff_not] at *; unfold ltP at *; omega
noncomputable def svT : TypeInfo := (Tryd.prog.info? 29).get (by kernel_rfl)
noncomputable def svE : TypeInfo := (Tryd.prog.info? 31).get (by kernel_rfl)
theorem svK (n : Nat) (h2 : 2 ≤ n) : Lib.swapperK n svE 25 = 9 := by
  have a : svE.hasPointers = false := by kernel_rfl
  have b : svE.bytes = 16 := by kernel_rfl
  have c : (n == 0) = false := by simp; omega
  have d : (n == 1) = false := by simp; omega
  simp [Lib.swapperK, a, b, c, d]

set_option linter.unusedVariables false in
set_option maxRecDepth 40000 in
set_option maxHeartbeats 4000000 in
/-- Which of two comes first. -/
theorem rless_any (g o c bx n : Nat) (W : World) (x y : Int × Int) (i j : Nat) (hB : W.cell? ⟨bx, 0, none⟩ = some (.slice (some ⟨g, o, none⟩) n c)) (hi : i < n) (hj : j < n) (hn : n ≤ 1000000) (hnc : n ≤ c) (hc : c ≤ 9223372036854775807)
    (x0 : W.cell? ⟨g, o + i * 2, none⟩ = some (.int .i64 x.1)) (x1 : W.cell? ⟨g, o + i * 2 + 1, none⟩ = some (.int .i64 x.2)) (y0 : W.cell? ⟨g, o + j * 2, none⟩ = some (.int .i64 y.1)) (y1 : W.cell? ⟨g, o + j * 2 + 1, none⟩ = some (.int .i64 y.2)) :
    Calls Tryd.prog 69 #[.int .i64 i, .int .i64 j, .pointer (some ⟨bx, 0, none⟩)] W fun e w' => e = .returned (.bool (ltQ x y)) ∧ ∃ q, w' = W.drewN q := by
  obtain ⟨x, x'⟩ := x
  obtain ⟨y, y'⟩ := y
  simp only at x0 x1 y0 y1
  have hl : ltQ (x, x') (y, y') = (decide (x < y) || (x == y && decide (x' < y'))) := by
    unfold ltQ ltP
    rw [Bool.eq_iff_iff]
    simp only [Bool.or_eq_true, Bool.and_eq_true, decide_eq_true_eq, beq_iff_eq]
    exact decide_eq_true_iff
  rw [hl]
  clear hl
  by_cases h : x < y
  · have hb : decide (x < y) = true := decide_eq_true h
    clear h
    go_enter Tryd.func69, Tryd.ntmps69
    go_wp2
    go_quiet (fail)
    go_wp2
    go_ret
    exact ⟨by simp [hb], nq, rfl⟩
  · have hb : decide (x < y) = false := decide_eq_false h
    by_cases h2 : x = y
    · subst h2
      clear h
      go_enter Tryd.func69, Tryd.ntmps69
      go_wp2
      go_quiet (fail)
      go_wp2
      go_ret
      exact ⟨by simp, nq, rfl⟩
    · have hb2 : (x == y) = false := by simpa using h2
      clear h h2
      go_enter Tryd.func69, Tryd.ntmps69
      go_wp2
      go_quiet (fail)
      go_wp2
      go_ret
      exact ⟨by simp [hb, hb2], nq, rfl⟩

theorem entersLess : ∀ args w, (callFunc 69 args).run Tryd.prog w = .ok (.enter 69 args) w := enters_of Tryd.func69 (by kernel_rfl) rfl
theorem rsort_any (w0 w : World) (bx : Nat) (v : Value) (l : List (Int × Int)) (L : List HProp) (hs : S w0 w (sl 31 2 v l.length (pcells l) :: blk bx 29 [v] :: L)) (hb : l.length ≤ 1000000) :
    Calls Tryd.prog 68 #[.iface 29 v, .func (.func 69) #[] #[.pointer (some ⟨bx, 0, none⟩)]] w fun e w' => e = .returned (.tuple #[]) ∧ ∃ srt : List (Int × Int), srt.Perm l ∧ (srt.Pairwise fun a b => ¬ ltP b a) ∧
      S w0 w' (sl 31 2 v srt.length (pcells srt) :: blk bx 29 [v] :: L) := by
  by_cases h2 : 2 ≤ l.length
  · obtain ⟨g, o, cap, rfl, hc1, hc2, _⟩ := hs.sl_some (by rw [pcells_length]; omega)
    unfold maxLen at hc2
    obtain ⟨r1, r2, r3⟩ := hs.sl_row
    have hlen : ∀ m : List (Int × Int), (m.flatMap encQ).length = m.length * 2 := fun m => by rw [← pcells_Q, pcells_length]
    have hsz : l.toArray.size = l.length := by simp
    have hH : HoldsK encQ 2 w g o l.toArray := by
      unfold HoldsK
      rw [flatK_eq encQ 2 (fun _ => rfl) (by omega)]
      exact r1
    have hsort : ∀ (m : Nat) (dk : Array (Int × Int)) (os : Array Obj), dk.size = l.length → S w0 (sortWorldK encQ 2 w g o m dk os) (sl 31 2 (.slice (some ⟨g, o, none⟩) l.length cap) l.length (pcells dk.toList) :: blk bx 29 [.slice (some ⟨g, o, none⟩) l.length cap] :: L) := by
      intro m dk os hd
      have h := r3 (dk.toList.flatMap encQ) m os (by rw [hlen, pcells_length]; simp [hd])
      have e : sortWorldK encQ 2 w g o m dk os = grow (putRow id (Sort.ahead w m) g o (dk.toList.flatMap encQ).toArray) os := by
        unfold sortWorldK putRowK
        rw [show dk = dk.toList.toArray by simp, flatK_eq encQ 2 (fun _ => rfl) (by omega)]
      rw [e]
      exact h
    have hless : LessReadsK Tryd.prog 69 #[.pointer (some ⟨bx, 0, none⟩)] encQ 2 ltQ g o l.toArray.size w := by
      intro m os dk hd i j hi hj
      rw [hsz] at hd hi hj
      have hS := hsort m dk os hd
      have hx : dk.toList[i]? = some dk[i]! := by rw [Array.getElem?_toList, getElem!_pos dk i (by omega), Array.getElem?_eq_getElem (by omega)]
      have hy : dk.toList[j]? = some dk[j]! := by rw [Array.getElem?_toList, getElem!_pos dk j (by omega), Array.getElem?_eq_getElem (by omega)]
      obtain ⟨g2, o2, e1, _, x0, x1⟩ := hS.sl_pair hx
      obtain ⟨g3, o3, e2, _, y0, y1⟩ := hS.sl_pair hy
      obtain ⟨rfl, rfl⟩ : g = g2 ∧ o = o2 := by simpa using e1
      obtain ⟨rfl, rfl⟩ : g = g3 ∧ o = o3 := by simpa using e2
      exact rless_any g o cap bx l.length _ _ _ i j (hS.swap.blk_cell 0 rfl) hi hj hb hc1 hc2 x0 x1 y0 y1
    refine (Any.sort_Slice_cells_sorted Tryd.sortS 29 31 svT svE (by kernel_rfl) (by kernel_rfl) (by kernel_rfl) (by kernel_rfl) 25 (fun _ => by kernel_rfl) encQ 2 (fun _ => rfl) (by kernel_rfl) (fun _ => by kernel_rfl)
      (fun x v hv => by simp [encQ] at hv; rcases hv with rfl | rfl <;> rfl) ltQ swoQ 69 _ entersLess g o cap l.toArray (by rw [hsz]; exact h2) (by rw [hsz]; omega) 112 (by rw [svK _ (by rw [hsz]; exact h2)]; kernel_rfl) false
      (fun args W => run_callFunc_extern Tryd.func112 (by kernel_rfl) (by kernel_rfl) (by kernel_rfl) (e := Extern.ReflectliteSwapper.swap false) (by kernel_rfl) args W) w hless hH r2).mono fun e w' ⟨he, d', n, os, hp, hso, hw⟩ => ⟨he, d'.toList, ?_, ?_, ?_⟩
    · have := hp.2.2
      rw [← hp.1] at this
      simpa using (show (d'.extract 0 d'.size).toList.Perm (l.toArray.extract 0 d'.size).toList from this).trans (by rw [hp.1]; simp)
    · rw [List.pairwise_iff_getElem]
      intro i j hi hj hij
      have := hso i j (Nat.zero_le _) hij (by rw [← hp.1]; simpa using hj)
      unfold ltQ at this
      rw [decide_eq_false_iff_not, getElem!_pos d' i (by simpa using hi), getElem!_pos d' j (by simpa using hj)] at this
      simpa using this
    · have hl' : d'.size = l.length := by rw [hp.1, hsz]
      have := hsort n d' os hl'
      have e0 : d'.toList.length = l.length := by simp [hl']
      rw [hw, e0]
      exact this
  · obtain ⟨a, c, rfl, _⟩ := hs.sl_val
    have hle : l.length ≤ 1 := by omega
    have hf : ∀ n : Nat, n ≤ 1 → ∃ f, Tryd.prog.funcs.findIdx? (·.name == "internal/reflectlite" ++ ".Swapper$" ++ toString (swapperK n svE 25)) = some f := by
      intro n hn
      match n, hn with
      | 0, _ => exact ⟨104, by kernel_rfl⟩
      | 1, _ => exact ⟨105, by kernel_rfl⟩
    obtain ⟨f, hf⟩ := hf l.length hle
    refine (Any.sort_Slice_tiny Tryd.sortS 29 31 svT svE (by kernel_rfl) (by kernel_rfl) (by kernel_rfl) (by kernel_rfl) 25 (fun _ => by kernel_rfl) a l.length c hle f hf _ _ _ w).mono fun e w' ⟨he, os, hw⟩ => ⟨he, l, List.Perm.refl _, ?_, ?_⟩
    · match l, hle with
      | [], _ => exact List.Pairwise.nil
      | [x], _ => simp
    · rw [hw]; exact hs.onto (show Below w.heap.size w (grow w os) from below_grow _ w (Nat.le_refl _) 0 os)
end Go.Proofs.YthdiphfbjlooaaaDoor
