/- order.Line, whatever the operations are: what it gives is one. -/
import Derived.Test.YtdlkjppppdminaaGreatDoorZ0
import Derived.Test.YtdlkjppppdminaaGreatDoorZ13
import Derived.Test.YtdlkjppppdminaaGreatDoorZ4
import Derived.Deep.MidRow
import Derived.Test.YtdlkjppppdminaaGreatDoorZ3
import Derived.Test.YtdlkjppppdminaaGreatDoorZ1
import Derived.Deep.LoopGhost
import Derived.Deep.RegionHeld3
import Derived.Deep.DeepCutAuto
/- slices.Compact at pairs. -/
namespace Go.Proofs.YtdlkjppppdminaaGreatDoor
open Go Go.RowKit Go.Sep
theorem Tryz.eqlW (p q : Int × Int) (w : World) : (binOp .eql 91 (.agg #[.int .i64 p.1, .int .i64 p.2]) (.agg #[.int .i64 q.1, .int .i64 q.2])).run Tryz.prog w = .ok (.bool (decide (p = q))) w := by
 go_simp
 obtain ⟨a, b⟩ := p
 obtain ⟨c, d⟩ := q
 by_cases h1 : a = c <;> by_cases h2 : b = d <;> simp [h1, h2]
theorem Tryz.neqW (p q : Int × Int) (w : World) : (binOp .neq 91 (.agg #[.int .i64 p.1, .int .i64 p.2]) (.agg #[.int .i64 q.1, .int .i64 q.2])).run Tryz.prog w = .ok (.bool (!decide (p = q))) w := by
 go_simp
 obtain ⟨a, b⟩ := p
 obtain ⟨c, d⟩ := q
 by_cases h1 : a = c <;> by_cases h2 : b = d <;> simp [h1, h2]
theorem Tryz.zero_W (w : World) : (zeroValue 91).run Tryz.prog w = .ok (.agg #[.int .i64 0, .int .i64 0]) w := Tryz.zeroValue91 w
theorem run_clear_sliceK {P : Program} (w : World) (t e ty : TypeId) (z : Value) (ht : P.underlying t = some (.slice e)) (hv : ∀ w, (zeroValue e).run P w = .ok z w) (h1 : ∀ v ∈ z.cells, v.oneCell' = true) (b o n c : Nat) (hn : 0 < n)
  (hc : ∀ j, j < n * z.cells.size → (w.cell? ⟨b, o + j, none⟩).isSome = true) (hf : ∀ j, j < n * z.cells.size → w.frozen? ⟨b, o + j, none⟩ = false) :
  (Builtin.clear_ #[t] ty #[.slice (some ⟨b, o, none⟩) n c]).run P w = .ok (.tuple #[]) (w.setCells b o (Builtin.zeroCells z.cells n).toList) := by
 have hl : (Builtin.zeroCells z.cells n).toList.length = n * z.cells.size := by simp [Builtin.zeroCells]
 have hst := run_storeCells_cells (P := P) b o (Builtin.zeroCells z.cells n).toList 0 w (by rw [hl]; simpa using hc) (by rw [hl]; simpa using hf) (by
  intro v hv'
  simp only [Builtin.zeroCells, Array.toList_map, List.mem_map] at hv'
  obtain ⟨i, hi, rfl⟩ := hv'
  have hi' : i < n * z.cells.size := by simpa using hi
  have hs : 0 < z.cells.size := by
   rcases Nat.eq_zero_or_pos z.cells.size with h | h
   ·rw [h, Nat.mul_zero] at hi'; omega
   ·exact h
  rw [getElem!_pos z.cells (i % z.cells.size) (Nat.mod_lt _ hs)]
  exact h1 _ (Array.getElem_mem _))
 simp only [Nat.add_zero] at hst
 obtain ⟨m, rfl⟩ : ∃ m, n = m + 1 := ⟨n - 1, by omega⟩
 simp [Builtin.clear_, run_underlying ht, hv, hst]
theorem pcells_take (l : List (Int × Int)) : ∀ k : Nat, (pcells l).take (k * 2) = pcells (l.take k) := by
 induction l with
 | nil => intro k; simp [pcells]
 | cons x l ih =>
  intro k
  cases k with
  | zero => simp [pcells]
  | succ k =>
   have := ih k
   rw [show (k + 1) * 2 = k * 2 + 2 by omega]
   simp only [pcells, List.flatMap_cons, List.take_succ_cons] at this ⊢
   simp [this]
theorem pcells_set2 : ∀ (l : List (Int × Int)) (k : Nat) (p : Int × Int), k < l.length → pcells (l.set k p) = (pcells l).take (k * 2) ++ [Value.int .i64 p.1, .int .i64 p.2] ++ (pcells l).drop (k * 2 + 2)
 | x :: l, 0, p, _ => by simp [pcells]
 | x :: l, k + 1, p, h => by
  have ih := pcells_set2 l k p (by simpa using h)
  rw [show (k + 1) * 2 = k * 2 + 2 by omega]
  simp only [List.set_cons_succ, pcells, List.flatMap_cons] at ih ⊢
  rw [ih]
  simp
set_option maxRecDepth 40000 in
set_option maxHeartbeats 8000000 in
theorem compact_any (w0 w : World) (v : Value) (l : List (Int × Int)) (L : List HProp) (hs : S w0 w (sl 91 2 v l.length (pcells l) :: L)) (hb : l.length ≤ 40000000) :
  Calls Tryz.prog 148 #[v] w fun e w' => ∃ v', e = .returned v' ∧ S w0 w' (sl 91 2 v' (compactP l).length (pcells (compactP l)) :: L) := by
 obtain ⟨a, cap, rfl, hcap, hcap2, _⟩ := hs.sl_val
 unfold maxLen at hcap2
 have H := hid hs
 clear hs
 by_cases h2 : l.length < 2
 ·have hc : compactP l = l := by
   match l, h2 with
   | [], _ => rfl
   | [x], _ => rfl
  rw [hc]
  clear hc
  go_enter Tryz.func148, Tryz.ntmps148
  go_wp2_with fail
  go_ret
  exact ⟨_, rfl, H.out⟩
 ·obtain ⟨g, og, rfl, hg, _⟩ := H.out.sl_pair (show l[0]? = some l[0] by simp)
  go_enter Tryz.func148, Tryz.ntmps148
  go_wp2_with fail
  go_loopw [3] (fun kv wr => ∃ k : Nat, 1 ≤ k ∧ k ≤ l.length ∧ kv = .int .i64 k ∧ Hid (compactP (l.take k) = l.take k) ∧ S w0 wr (sl 91 2 (.slice (some ⟨g, og, none⟩) l.length cap) l.length (pcells l) :: L)) (fun kv _ => l.length - (intOf kv).toNat)
  case atStart => exact ⟨1, by omega, by omega, rfl, hid (by obtain ⟨x, l', rfl⟩ := List.exists_cons_of_ne_nil (show l ≠ [] by rintro rfl; simp at h2); rfl), H.out⟩
  case round =>
   obtain ⟨k, hk1, hk, rfl, hck, hsr⟩ := hrel
   clear H
   by_cases hkl : k < l.length
   ·obtain ⟨j, rfl⟩ : ∃ j, k = j + 1 := ⟨k - 1, by omega⟩
    have hp : l[j + 1]? = some l[j + 1] := by simp [hkl]
    have hq : l[j]? = some l[j] := by simp
    have htk := compactP_take hq hp
    generalize l[j + 1] = p at hp htk
    generalize l[j] = q at hq htk
    obtain ⟨gx, ox, hg0, _, d0, d1⟩ := hsr.drew.sl_pair (a := some ⟨g, og, none⟩) hp
    obtain ⟨rfl, rfl⟩ : g = gx ∧ og = ox := by simpa using hg0
    obtain ⟨gx, ox, hg0, _, d2, d3⟩ := hsr.drew.sl_pair (a := some ⟨g, og, none⟩) hq
    obtain ⟨rfl, rfl⟩ : g = gx ∧ og = ox := by simpa using hg0
    have he := fun w => Tryz.eqlW p q w
    have hj0 : (j : Int) + 1 - 1 = j := by omega
    have H := hid hsr.drew
    clear hsr
    by_cases hpq : p = q
    ·rw [decide_eq_true hpq] at he
     rw [if_pos hpq, hck.out] at htk
     have HK := hid htk
     clear htk hp hq hg0 hck hpq
     go_wp2_with fail
     go_region
     go_wp2_with fail
     clear d0 d1 d2 d3 he
     go_loopw [3, 5] (fun kv rv wx => ∃ (k r : Nat) (cur : List (Int × Int)), kv = .int .i64 k ∧ rv = .int .i64 r ∧ 1 ≤ r ∧ j + 1 ≤ k ∧ k < j + 1 + r ∧ j + 1 + r ≤ l.length ∧ cur.length = l.length ∧ Hid (cur.take k = compactP (l.take (j + 1 + r)) ∧ cur.drop (j + r) = l.drop (j + r)) ∧
      S w0 wx (sl 91 2 (.slice (some ⟨g, og, none⟩) l.length cap) l.length (pcells cur) :: L)) (fun _ rv _ => l.length - (intOf rv).toNat)
     case atStart => exact ⟨j + 1, 1, l, by go_num, rfl, by omega, by omega, by omega, by omega, rfl, hid ⟨HK.out.symm, rfl⟩, H.out⟩
     case round =>
      obtain ⟨k, r, cur, rfl, rfl, hr1, hjk, hkr, hr, hcl, hcur, hsr⟩ := hrel
      rename World => wx
      clear H
      by_cases hrl : j + 1 + r < l.length
      ·obtain ⟨r, rfl⟩ : ∃ r', r = r' + 1 := ⟨r - 1, by omega⟩
       have hp : l[j + 1 + r + 1]? = some l[j + 1 + r + 1] := by rw [List.getElem?_eq_getElem]
       have hq : l[j + 1 + r]? = some l[j + 1 + r] := by rw [List.getElem?_eq_getElem]
       have htk := compactP_take hq hp
       generalize l[j + 1 + r + 1] = p at hp htk
       generalize l[j + 1 + r] = q at hq htk
       obtain ⟨hc1, hc2⟩ := hcur.out
       have hcp : cur[j + 1 + r + 1]? = some p := by
        have := congrArg (fun x => x[1]?) hc2
        rw [← hp]
        simpa [Nat.add_assoc, Nat.add_comm, Nat.add_left_comm] using this
       have hcq : cur[j + 1 + r]? = some q := by
        have := congrArg (fun x => x[0]?) hc2
        rw [← hq]
        simpa [Nat.add_assoc, Nat.add_comm, Nat.add_left_comm] using this
       have hcp' := hcp
       obtain ⟨gx, ox, hg0, _, d0, d1⟩ := hsr.drew.sl_pair (a := some ⟨g, og, none⟩) hcp
       obtain ⟨rfl, rfl⟩ : g = gx ∧ og = ox := by simpa using hg0
       obtain ⟨gx, ox, hg0, _, d2, d3⟩ := hsr.drew.sl_pair (a := some ⟨g, og, none⟩) hcq
       obtain ⟨rfl, rfl⟩ : g = gx ∧ og = ox := by simpa using hg0
       have e1 : og + (j + 1 + r + 1) * 2 = og + (j + 1) * 2 + (r + 1) * 2 := by omega
       have e2 : og + (j + 1 + r) * 2 = og + (j + 1) * 2 + r * 2 := by omega
       rw [e1] at d0 d1
       rw [e2] at d2 d3
       have he := fun w => Tryz.neqW p q w
       have hj0 : (r : Int) + 1 - 1 = r := by omega
       have hdrop : cur.drop (j + (r + 1 + 1)) = l.drop (j + (r + 1 + 1)) := by
        have := congrArg (fun x => x.drop 1) hc2
        simpa [List.drop_drop, Nat.add_assoc] using this
       have H := hid hsr.drew
       clear hsr hc2 hcur hg0 e1 e2
       by_cases hpq : p = q
       ·rw [decide_eq_true hpq] at he
        rw [if_pos hpq] at htk
        have HK : Hid (cur.take k = compactP (l.take (j + 1 + (r + 1 + 1))) ∧ cur.drop (j + (r + 1 + 1)) = l.drop (j + (r + 1 + 1))) := hid ⟨by rw [hc1]; exact htk.symm, hdrop⟩
        clear htk hp hq hpq hc1 hdrop hcp hcq hcp'
        go_wp2_with fail
        go_region
        go_wp2_with fail
        go_roundw
        case rel => exact ⟨k, r + 1 + 1, cur, rfl, by go_num, by omega, by omega, by omega, by omega, hcl, HK, H.out⟩
        case measure => simp [intOf]; omega
       ·rw [decide_eq_false hpq] at he
        rw [if_neg hpq] at htk
        have hkc : k * 2 + 1 < (pcells cur).length := by rw [pcells_length]; omega
        obtain ⟨gy, oy, _, hg1, _, _, _, _, hd0, hf0⟩ := H.out.sl_some (by omega)
        obtain ⟨⟨rfl, rfl⟩, -⟩ : (g = gy ∧ og = oy) ∧ _ := by simpa using hg1
        have hth : ∀ u : Nat, u < 2 → ((wx.drew).cell? ⟨g, og + k * 2 + u, none⟩).isSome = true ∧ (wx.drew).frozen? ⟨g, og + k * 2 + u, none⟩ = false := fun u hu =>
         ⟨by rw [Nat.add_assoc, hd0 (k * 2 + u) _ (List.getElem?_eq_getElem (by omega))]; rfl, hf0 _⟩
        have hst := run_storeAt_mid (P := Tryz.prog) wx.drew g (og + k * 2) 91 #[.int .i64 p.1, .int .i64 p.2] hth (by kernel_rfl) (by simp [Value.oneCell'])
        have hset := H.out.sl_setCells [.int .i64 p.1, .int .i64 p.2] (k * 2) (by simp only [List.length_cons, List.length_nil]; omega)
        have hfin : (cur.set k p).take (k + 1) = compactP (l.take (j + 1 + (r + 1 + 1))) ∧ (cur.set k p).drop (j + (r + 1 + 1)) = l.drop (j + (r + 1 + 1)) := by
         refine ⟨?_, ?_⟩
         ·refine Eq.trans ?_ htk.symm
          rw [take_succ_get (show (cur.set k p)[k]? = some p from List.getElem?_set_self (by omega)), List.take_set_of_le (by omega), hc1]
          rfl
         ·rw [List.drop_set_of_lt (by omega)]; exact hdrop
        have hpc : (pcells cur).take (k * 2) ++ [Value.int .i64 p.1, .int .i64 p.2] ++ (pcells cur).drop (k * 2 + 2) = pcells (cur.set k p) := by
         rw [pcells_set2 cur k p (by omega)]
        simp only [List.length_cons, List.length_nil, Nat.zero_add] at hset
        rw [hpc] at hset
        have HK := hid hfin; have HS := hid hset
        have HL : Hid ((cur.set k p).length = l.length) := hid (by rw [List.length_set]; exact hcl)
        clear hfin hset hpc htk hc1 hdrop hcl hcp' hkc hst
        clear hp hq hpq hcp hcq hd0 hf0 hg1
        go_wp2_with fail
        go_region
        go_wp2_with (refine wpList_store_mid rfl 91 (.tmp 51) (.tmp 50) rfl g (og + k * 2) #[.int .i64 p.1, .int .i64 p.2] rfl rfl hth (by kernel_rfl) (by simp [Value.oneCell']) ?_)
        go_roundw
        case rel => exact ⟨k + 1, r + 1 + 1, cur.set k p, by go_num, by go_num, by omega, by omega, by omega, by omega, HL.out, HK, HS.out⟩
        case measure => simp [intOf]; omega
      ·have hjr : j + 1 + r = l.length := by omega
       obtain ⟨hc1, _⟩ := hcur.out
       rw [hjr, List.take_length] at hc1
       have hkl2 : k ≤ l.length := by omega
       have hpl : (pcells cur).length = l.length * 2 := by rw [pcells_length, hcl]
       have hzl : (Builtin.zeroCells (Value.agg #[.int .i64 0, .int .i64 0]).cells (l.length - k)).toList.length = (l.length - k) * 2 := by simp [Builtin.zeroCells, Value.cells]
       have hclr : ∀ ty, (Builtin.clear_ #[70] ty #[.slice (some ⟨g, og + k * 2, none⟩) (l.length - k) (cap - k)]).run Tryz.prog wx = .ok (.tuple #[]) (wx.setCells g (og + k * 2) (Builtin.zeroCells (Value.agg #[.int .i64 0, .int .i64 0]).cells (l.length - k)).toList) := by
        intro ty
        obtain ⟨gy, oy, _, hg1, _, _, _, _, hd0, hf0⟩ := hsr.sl_some (by omega)
        obtain ⟨⟨rfl, rfl⟩, -⟩ : (g = gy ∧ og = oy) ∧ _ := by simpa using hg1
        refine run_clear_sliceK wx _ _ ty _ Tryz.underlying70 Tryz.zero_W (by simp [Value.cells, Value.oneCell']) g (og + k * 2) _ _ (by omega) (fun j hj => ?_) (fun j hj => hf0 _)
        simp only [Value.cells, List.size_toArray, List.length_cons, List.length_nil, Nat.zero_add] at hj
        rw [Nat.add_assoc, hd0 (k * 2 + j) _ (List.getElem?_eq_getElem (by omega))]
        rfl
       generalize (Builtin.zeroCells (Value.agg #[.int .i64 0, .int .i64 0]).cells (l.length - k)).toList = zs at hzl hclr
       have hfin : S w0 (wx.setCells g (og + k * 2) zs) (sl 91 2 (.slice (some ⟨g, og, none⟩) k cap) k (pcells (compactP l)) :: L) := by
        have h1 := hsr.sl_setCells zs (k * 2) (by omega)
        have h2 := h1.sl_take k hkl2
        rw [← hc1]
        rw [List.append_assoc, List.take_left' (by rw [List.length_take]; omega)] at h2
        rw [← pcells_take]; exact h2
       have hsl : (compactP l).length = k := by rw [← hc1, List.length_take]; omega
       have HF := hid hfin; have HS2 := hid hsl
       clear hfin hsl hsr hc1 hcur hcl hpl hzl
       go_wp2_with fail
       go_ret
       exact ⟨_, rfl, by rw [HS2.out]; exact HF.out⟩
    ·rw [decide_eq_false hpq] at he
     rw [if_neg hpq] at htk
     have hck2 : compactP (l.take (j + 1 + 1)) = l.take (j + 1 + 1) := by
      rw [htk, hck.out, take_succ_get hp]
     have HK := hid hck2
     clear htk hp hq hg0 hck2 hck hpq
     go_wp2_with fail
     go_region
     go_wp2_with fail
     go_roundw
     case rel => exact ⟨j + 1 + 1, by omega, by omega, by go_num, HK, H.out⟩
     case measure => simp [intOf]; omega
   ·have hkk : k = l.length := by omega
    subst hkk
    have h3 := hck.out
    rw [List.take_length] at h3
    have HF := hid hsr; have H3 := hid h3
    clear hsr hck h3
    go_wp2_with fail
    go_ret
    exact ⟨_, rfl, by rw [H3.out]; exact HF.out⟩
end Go.Proofs.YtdlkjppppdminaaGreatDoor
/- order.Edges: its closures, the search, the sort. -/
namespace Go.Sep
open Go Go.RowKit Go.Sort Go.Proofs Go.Shelf
theorem S.sl_row {w w0 : World} {L : List HProp} {e size n g o cap : Nat} {xs : List Value} (h : S w0 w (sl e size (.slice (some ⟨g, o, none⟩) n cap) n xs :: L)) : Holds id w g o xs.toArray ∧ g < w.heap.size ∧
  ∀ (ys : List Value) (k : Nat) (os : Array Obj), ys.length = xs.length → S w0 (grow (putRow id (Sort.ahead w k) g o ys.toArray) os) (sl e size (.slice (some ⟨g, o, none⟩) n cap) n ys :: L) := by
 rcases h.sl_elim with ⟨hv, _⟩ | ⟨g', cap', pre, sp, post, hp, hb⟩
 ·simp at hv
 have hv := hp.val
 simp at hv
 obtain ⟨⟨rfl, rfl⟩, rfl⟩ := hv
 refine ⟨fun j hj => ?_, hb.blk_lt, fun ys k os hm => ?_⟩
 ·have hj' : j < xs.length := by simpa using hj
  refine ⟨?_, hb.blk_free _⟩
  refine hb.blk_cell (pre.length + j) ?_
  rw [List.getElem?_append_right (by omega), Nat.add_sub_cancel_left, List.getElem?_append_left hj']
  simp [hj']
 ·have hh := hb.blk_heap
  have h1 := heap_putRow (w := w) id (off := pre.length) (n := k) (os := os) ys.toArray hh
  have e1 : putCells id pre.length ys.toArray (pre ++ (xs ++ (sp ++ post))).toArray = (pre ++ (ys ++ (sp ++ post))).toArray := by
   apply Array.toList_inj.1
   have := putCells_mid id pre (sp ++ post) xs ys hm
   simpa using this
  rw [e1] at h1
  have h2 := hb.blk_turn (grownBy_putRow id (off := pre.length) (n := k) (os := os) ys.toArray) h1
  exact .sl_intro ⟨rfl, by rw [hm, hp.len], by have := hp.room; omega, hp.le, hp.max⟩ h2
theorem flatK_eq {α : Type} [Inhabited α] (enc : α → List Value) (k : Nat) (hk : ∀ x, (enc x).length = k) (hk0 : 0 < k) (l : List α) : flatK enc k l.toArray = (l.flatMap enc).toArray := by
 apply Array.toList_inj.1
 have hlen : (l.flatMap enc).length = l.length * k := by
  induction l with
  | nil => simp
  | cons a l ih => simp [hk, Nat.add_mul, ih]; omega
 apply List.ext_getElem?
 intro t
 by_cases ht : t < l.length * k
 ·have hq : t / k < l.length := by rw [Nat.div_lt_iff_lt_mul hk0]; exact ht
  have hr := Nat.mod_lt t hk0
  have h1 : (flatK enc k l.toArray).toList[t]? = some ((enc l[t / k])[t % k]'(by rw [hk]; exact hr)) := by
   have := get_flatK enc k l.toArray t (by simpa using ht)
   rw [Array.getElem?_toList, Array.getElem?_eq_getElem (by simpa using ht)]
   congr 1
   rw [← getElem!_pos (flatK enc k l.toArray) t (by simpa using ht), this]
   rw [getElem!_pos l.toArray (t / k) (by simpa using hq)]
   rw [getElem!_pos _ (t % k) (by rw [hk]; exact hr)]
   simp
  rw [h1]
  have h2 := fcells_at (f := enc) hk (l := l) (j := t / k) (a := l[t / k]) (c := t % k) (u := (enc l[t / k])[t % k]'(by rw [hk]; exact hr)) (by simp [hq]) (by simp [hk, hr])
  rw [show t / k * k + t % k = t by rw [Nat.mul_comm]; exact Nat.div_add_mod t k] at h2
  unfold fcells at h2
  simpa using h2.symm
 ·have h3 : (l.flatMap enc).length ≤ t := by rw [hlen]; omega
  rw [List.getElem?_eq_none (by simpa using ht), List.getElem?_eq_none (by simpa only [List.size_toArray] using h3)]
end Go.Sep
namespace Go.Proofs.YtdlkjppppdminaaGreatDoor
open Go Go.RowKit Go.Sep Go.Shelf Go.Lib Go.Sort
def ocells (o : Op1) : List Value := [.int .i64 o.tx, .int .i64 o.key, .bool o.wr, .int .i64 o.fr]
instance : Inhabited Op1 := ⟨⟨0, 0, false, 0⟩⟩
theorem bad_pred (w : World) : PredBelow Tryz.prog 143 #[] (fun o => .agg (ocells o).toArray) badOp w := fun W x hb => by
 obtain ⟨tx, key, wr, fr⟩ := x
 show Calls Tryz.prog 143 #[.agg #[.int .i64 tx, .int .i64 key, .bool wr, .int .i64 fr]] W _
 have hbad : badOp ⟨tx, key, wr, fr⟩ = (decide (tx < 1) || decide (fr < 0) || decide (key < 0) || decide (10 ≤ key)) := by simp [badOp, Bool.decide_or, Bool.or_assoc]
 rw [hbad]
 clear hbad
 have hfin := hb.alloc hb.size (.cells #[.int .i64 tx, .int .i64 key, .bool wr, .int .i64 fr] 121)
 have HB := hid hfin
 clear hfin hb
 go_enter Tryz.func143, Tryz.ntmps143
 go_wp2
 all_goals (go_ret; exact ⟨by simp_all, HB.out⟩)
set_option maxRecDepth 40000 in
set_option maxHeartbeats 4000000 in
theorem add_any (w0 w : World) (bx : Nat) (l : List (Int × Int)) (a b : Int) (L : List HProp) (hs : S w0 w (outP 70 91 bx l :: L)) (hb : l.length ≤ 40000000) :
  Calls Tryz.prog 144 #[.int .i64 a, .int .i64 b, .pointer (some ⟨bx, 0, none⟩)] w fun e w' => e = .returned (.tuple #[]) ∧ S w0 w' (outP 70 91 bx (l ++ addE a b) :: L) := by
 by_cases h : a ≠ b ∧ a ≠ 0
 ·have ha : addE a b = [(a, b)] := by unfold addE; rw [if_pos h]
  have h1 : (a != b) = true := by simpa using h.1
  have h2 : (a != 0) = true := by simpa using h.2
  rw [ha]
  obtain ⟨v, hv⟩ := hs.out_elim
  have c0 := hv.blk_cell 0 rfl
  obtain ⟨av, cv, rfl, _, _, _⟩ := hv.swap.sl_val
  have hs7 := hv.swap.alloc #[.int .i64 a, .int .i64 b] 91
  have hn7 := news_blk hs7
  have hs8 := hs7.tail
  obtain ⟨i0, hi0, hz0, hz1, hz2⟩ := info_parts Tryz.info91
  have hpl := pcells_length l
  have H8 := hid hs8; have HN := hid hn7; have HL := hid hpl
  clear hs hv hs7 hs8 hn7 h ha hpl
  go_enter Tryz.func144, Tryz.ntmps144
  go_wp2_with (at_builtin; refine wpList_append rfl (.tmp 12) (.tmp 16) 70 rfl 91 i0 (.agg #[.int .i64 0, .int .i64 0]) 2 16 Tryz.underlying70 hi0 hz0 hz1 hz2 rfl (by decide) H8.out rfl (some ⟨w.heap.size, 0, none⟩) 1 1 [.int .i64 a, .int .i64 b] rfl rfl HN.out (by simp [Value.oneCell']) (by unfold maxLen; omega) (by omega) ?_; intro v1 w5 hs6; obtain ⟨a6, c6', rfl, _, _, _⟩ := hs6.sl_val; have c6 := hs6.swap.blk_cell 0 rfl; have f6 := hs6.swap.blk_free 0; have H6 := hid hs6; clear hs6)
  go_end0
  refine ⟨rfl, S.out_intro (v := .slice a6 (l.length + 1) c6') ?_⟩
  have h9 := H6.out.swap.blk_set 0 (by simp) (.slice a6 (l.length + 1) c6')
  rw [List.length_append, pcells_append]
  exact h9
 ·have ha : addE a b = [] := by unfold addE; rw [if_neg h]
  rw [ha, List.append_nil]
  have H := hid hs
  clear hs ha
  by_cases h1 : a = b
  ·subst h1
   clear h
   go_enter Tryz.func144, Tryz.ntmps144
   go_wp2_with fail
   go_end0
   exact ⟨rfl, H.out⟩
  ·have h0 : a = 0 := by
    by_cases h0 : a = 0
    ·exact h0
    ·exact absurd ⟨h1, h0⟩ h
   subst h0
   have h1 : ((0 : Int) != b) = true := by simpa using h1
   clear h
   go_enter Tryz.func144, Tryz.ntmps144
   go_wp2_with fail
   go_end0
   exact ⟨rfl, H.out⟩
abbrev W2 : Type := { p : Int × Int // (0 ≤ p.1 ∧ p.1 ≤ 9223372036854775807) ∧ (0 ≤ p.2 ∧ p.2 ≤ 9223372036854775807) }
instance : Inhabited W2 := ⟨⟨(0, 0), by omega⟩⟩
def encW (p : W2) : List Value := [.int .i64 p.1.1, .int .i64 p.1.2]
def cfW (p q : W2) : Int := if p.1.1 ≠ q.1.1 then p.1.1 - q.1.1 else p.1.2 - q.1.2
instance (a b : Int × Int) : Decidable (ltP a b) := by unfold ltP; infer_instance
theorem ltW (p q : W2) : ltOf cfW p q = decide (ltP p.1 q.1) := by
 unfold ltOf cfW ltP
 by_cases h : p.1.1 = q.1.1
 ·simp [h]; omega
 ·simp [h]; omega
theorem swoW : SWO (ltOf cfW) where
 irrefl x := by rw [ltW]; simpa using ltP.irrefl x.1
 trans x y z h1 h2 := by rw [ltW] at *; simp only [decide_eq_true_eq] at *; exact h1.trans h2
 ntrans x y z h1 h2 := by rw [ltW, decide_eq_false_iff_not] at *; unfold ltP at *; omega
theorem totW (x y : W2) (h : ltOf cfW x y = false) (h2 : ltOf cfW y x = false) : x = y := by
 rw [ltW, decide_eq_false_iff_not] at *
 unfold ltP at *
 exact Subtype.ext (Prod.ext (by omega) (by omega))
set_option maxRecDepth 40000 in
set_option maxHeartbeats 4000000 in
theorem cmp_any (x y : W2) (W : World) : Calls Tryz.prog 147 #[.agg (encW x).toArray, .agg (encW y).toArray] W fun e w' => e = .returned (.int .i64 (cfW x y)) ∧ ∃ q os', w' = grow (W.drewN q) os' := by
 obtain ⟨⟨a, b⟩, ⟨ha0, ha1⟩, hb0, hb1⟩ := x
 obtain ⟨⟨c, d⟩, ⟨hc0, hc1⟩, hd0, hd1⟩ := y
 show Calls Tryz.prog 147 #[.agg #[.int .i64 a, .int .i64 b], .agg #[.int .i64 c, .int .i64 d]] W fun e w' => e = .returned (.int .i64 (if a ≠ c then a - c else b - d)) ∧ ∃ q os', w' = grow (W.drewN q) os'
 by_cases h : a = c
 ·subst h
  go_enter Tryz.func147, Tryz.ntmps147
  go_wp2_with fail
  go_ret
  exact ⟨by simp, 0, _, by rw [alloc_eq_grow, alloc_eq_grow, grow_grow]; rfl⟩
 ·have h1 : (a != c) = true := by simpa using h
  go_enter Tryz.func147, Tryz.ntmps147
  go_wp2_with fail
  go_ret
  exact ⟨by simp, 0, _, by rw [alloc_eq_grow, alloc_eq_grow, grow_grow]; rfl⟩
end Go.Proofs.YtdlkjppppdminaaGreatDoor
/- order.Edges: the library's search and sort at its slices. -/
namespace Go.Proofs.YtdlkjppppdminaaGreatDoor
open Go Go.RowKit Go.Sep Go.Shelf Go.Lib Go.Sort
theorem pcells_W2 : ∀ ls : List W2, pcells (ls.map (·.1)) = ls.flatMap encW
 | [] => rfl
 | p :: ls => by
  have := pcells_W2 ls
  simp only [pcells, List.map_cons, List.flatMap_cons] at this ⊢
  rw [this]; rfl
def boundP (p : Int × Int) : Prop := (0 ≤ p.1 ∧ p.1 ≤ 9223372036854775807) ∧ (0 ≤ p.2 ∧ p.2 ≤ 9223372036854775807)
theorem toW2 {l : List (Int × Int)} (h : ∀ p ∈ l, boundP p) : ∃ ls : List W2, ls.map (·.1) = l := by
 induction l with
 | nil => exact ⟨[], rfl⟩
 | cons p l ih =>
  obtain ⟨ls, hl⟩ := ih fun p hp => h p (by simp [hp])
  exact ⟨⟨p, h p (by simp)⟩ :: ls, by simp [hl]⟩
theorem Tryz.entersCmp : ∀ args w, (callFunc 147 args).run Tryz.prog w = .ok (.enter 147 args) w := enters_of Tryz.func147 (by kernel_rfl) rfl
theorem sortW_any (w0 w : World) (v : Value) (l : List (Int × Int)) (L : List HProp) (hs : S w0 w (sl 91 2 v l.length (pcells l) :: L)) (hb : l.length ≤ 40000000) (hp : ∀ p ∈ l, boundP p) :
  Calls Tryz.prog 146 #[v, .func (.func 147) #[] #[]] w fun e w' => e = .returned (.tuple #[]) ∧ ∃ srt : List (Int × Int), srt.Perm l ∧ srt.Pairwise leP ∧ S w0 w' (sl 91 2 v srt.length (pcells srt) :: L) := by
 rcases Nat.eq_zero_or_pos l.length with h0 | hpos
 ·obtain rfl := List.eq_nil_of_length_eq_zero h0
  obtain ⟨a, cap, rfl, _⟩ := hs.sl_val
  exact (AnyF.slices_SortFunc_none Tryz.sortW a cap _ w).mono fun e w' ⟨h1, h2⟩ => ⟨h1, [], List.Perm.refl _, List.Pairwise.nil, by rw [h2]; exact hs⟩
 ·obtain ⟨ls, rfl⟩ := toW2 hp
  rw [List.length_map] at hs hpos hb
  rw [pcells_W2] at hs
  have hlen : (ls.flatMap encW).length = ls.length * 2 := by rw [← pcells_W2, pcells_length, List.length_map]
  obtain ⟨g, o, cap, rfl, _⟩ := hs.sl_some (by omega)
  obtain ⟨h1, h2, h3⟩ := hs.sl_row
  have hH : HoldsK encW 2 w g o ls.toArray := by
   unfold HoldsK
   rw [flatK_eq encW 2 (fun _ => rfl) (by omega)]
   exact h1
  have hcon := AnyQ.slices_SortFunc_total Tryz.sortW 2 Tryz.isAgg91 Tryz.sizeOf91 encW (fun _ => rfl) (fun x v hv => by simp [encW] at hv; rcases hv with rfl | rfl <;> rfl) cfW swoW 147 #[] g o cap ls.toArray w
   Tryz.entersCmp (fun _ _ _ _ x y => cmp_any x y _) hH h2 (by simpa using (by omega : ls.length < 4611686018427387904)) totW
  refine Calls.mono hcon fun e w' ⟨he, n, os, hw⟩ => ⟨he, ?_⟩
  have hsz : ls.toArray.size = ls.length := by simp
  let srt := ls.mergeSort fun x y => !(ltOf cfW) y x
  have hperm : srt.Perm ls := List.mergeSort_perm _ _
  have hsl : srt.length = ls.length := hperm.length_eq
  refine ⟨srt.map (·.1), hperm.map _, ?_, ?_⟩
  ·have hpw : srt.Pairwise fun x y => (!(ltOf cfW) y x) = true := by
    refine List.pairwise_mergeSort ?_ ?_ ls
    ·intro a b c h1 h2
     rw [Bool.not_eq_true', ltW, decide_eq_false_iff_not] at *
     unfold ltP at *; omega
    ·intro a b
     rw [ltW, ltW]
     by_cases h : ltP b.1 a.1
     ·have : ¬ ltP a.1 b.1 := fun h2 => h.asymm h2
      simp [h, this]
     ·simp [h]
   rw [List.pairwise_map]
   refine hpw.imp fun {a b} h => ?_
   rw [Bool.not_eq_true', ltW, decide_eq_false_iff_not] at h
   unfold ltP at h; unfold leP; omega
  ·rw [hw, List.length_map, hsl, pcells_W2]
   have h5 := h3 (srt.flatMap encW) n os (by rw [hlen, ← hsl, ← List.length_map (f := fun x : W2 => x.1), ← pcells_length, pcells_W2])
   have e : sortWorldK encW 2 w g o n srt.toArray os = grow (putRow id (Sort.ahead w n) g o (srt.flatMap encW).toArray) os := by
    unfold sortWorldK putRowK
    rw [flatK_eq encW 2 (fun _ => rfl) (by omega)]
   rw [show (List.mergeSort ls.toArray.toList fun x y => !(ltOf cfW) y x) = srt by simp [srt], e]
   exact h5
def badIx (l : List Op1) : Int := Lib.idxBy (fun _ y => badOp y) l default
theorem badIx_cases (l : List Op1) : (badIx l = -1 ∧ ∀ o ∈ l, badOp o = false) ∨ ∃ k : Nat, badIx l = k ∧ k < l.length ∧ ∃ o, l[k]? = some o ∧ badOp o = true ∧ ∀ j < k, ∀ o, l[j]? = some o → badOp o = false := by
 rcases hf : l.findIdx? badOp with _ | k
 ·left
  rw [List.findIdx?_eq_none_iff] at hf
  refine ⟨?_, fun o ho => by simpa using hf o ho⟩
  unfold badIx Lib.idxBy
  refine Lib.idxByFrom_miss _ _ l 0 fun j hj => ?_
  rw [getElem!_pos l j hj]
  simpa using hf _ (List.getElem_mem hj)
 ·right
  rw [List.findIdx?_eq_some_iff_getElem] at hf
  obtain ⟨hk, h1, h2⟩ := hf
  refine ⟨k, ?_, hk, l[k], by simp [hk], h1, fun j hj o ho => ?_⟩
  ·unfold badIx Lib.idxBy
   have := Lib.idxByFrom_hit (fun _ y => badOp y) default l k 0 hk (by rw [getElem!_pos l k hk]; exact h1) (fun j hj => by rw [getElem!_pos l j (by omega)]; simpa using h2 j hj)
   simpa using this
  ·obtain ⟨hj2, rfl⟩ := List.getElem?_eq_some_iff.1 ho
   simpa using h2 j hj
theorem ocells_length (o : Op1) : (ocells o).length = 4 := rfl
theorem Tryz.entersBad : ∀ args w, (callFunc 143 args).run Tryz.prog w = .ok (.enter 143 args) w := enters_of Tryz.func143 (by kernel_rfl) rfl
theorem badnil_any (w : World) (a : Option Addr) (cap : Nat) : Calls Tryz.prog 142 #[.slice a 0 cap, .func (.func 143) #[] #[]] w fun e w' => e = .returned (.int .i64 (-1)) ∧ w = w' := by
 go_enter Tryz.func142, Tryz.ntmps142
 go_wp2_with fail
 go_loopw [8] (fun x wr => x = .int .i64 0 ∧ wr = w) (fun _ _ => 0)
 case atStart => exact ⟨rfl, rfl⟩
 case round =>
  obtain ⟨rfl, rfl⟩ := hrel
  go_wp2_with fail
  go_ret
  exact ⟨rfl, rfl⟩
theorem bad_any (w0 w : World) (v : Value) (l : List Op1) (L : List HProp) (hs : S w0 w L) (hr : RdK w0 L v l.length (fcells ocells l)) (hb : l.length ≤ 40000000) :
  Calls Tryz.prog 142 #[v, .func (.func 143) #[] #[]] w fun e w' => e = .returned (.int .i64 (badIx l)) ∧ S w0 w' L := by
 obtain ⟨a, cap, rfl, hcap, hcap2, hrd⟩ := hr w hs
 rcases Nat.eq_zero_or_pos l.length with h0 | hpos
 ·obtain rfl := List.eq_nil_of_length_eq_zero h0
  exact (badnil_any w a cap).mono fun e w' ⟨h1, h2⟩ => ⟨h1, by rw [← h2]; exact hs⟩
 ·obtain ⟨b, o, rfl, hcell⟩ := hr.fc ocells_length hs (show l[0]? = some l[0] by simp [hpos]) (by omega)
  have hblt : b < w.heap.size := World.block_lt_of_cell? w _ (hcell w hs 0 _ rfl)
  have hcon := AnyQ.slices_IndexFunc Tryz.ixOp 4 Tryz.isAgg121 Tryz.sizeOf121 ocells ocells_length badOp 143 #[] Tryz.entersBad b o l.length cap l w
   (bad_pred w) (Nat.le_refl _) (by omega) hblt (fun j hj i v hi => by
    rw [getElem!_pos l j hj] at hi
    obtain ⟨b', o', hbo, hc'⟩ := hr.fc ocells_length hs (show l[j]? = some l[j] by simp [hj]) (by omega)
    simp only [Option.some.injEq, Addr.mk.injEq] at hbo
    obtain ⟨rfl, rfl, -⟩ := hbo
    exact hc' w hs i v hi)
  rw [List.take_length] at hcon
  exact Calls.mono hcon fun e w' ⟨h1, h2⟩ => ⟨h1, hs.onto h2⟩
theorem ixint_any (w0 w : World) (v : Value) (l : List Int) (x : Int) (L : List HProp) (hs : S w0 w L) (hr : RdK w0 L v l.length (icells l)) (hb : l.length ≤ 40000000) :
  Calls Tryz.prog 145 #[v, .int .i64 x] w fun e w' => e = .returned (.int .i64 (Lib.idxOf l x)) ∧ w = w' := by
 obtain ⟨a, cap, rfl, hcap, hcap2, hrd⟩ := hr w hs
 rcases Nat.eq_zero_or_pos l.length with h0 | hpos
 ·obtain rfl := List.eq_nil_of_length_eq_zero h0
  exact (Tryz.slices_Index_int_empty a cap x w).mono fun e w' ⟨h1, h2⟩ => ⟨h1, h2.symm⟩
 ·obtain ⟨b, o, hbo, _⟩ := hrd 0 _ (icells_at (show l[0]? = some l[0] by simp [hpos]))
  subst hbo
  have hcon := Tryz.slices_Index_int b o l.length cap l x w (Nat.le_refl _) (by omega) (fun j hj => by
   obtain ⟨b', o', hbo, hc'⟩ := hrd j _ (icells_at (show l[j]? = some l[j] by simp [hj]))
   simp only [Option.some.injEq, Addr.mk.injEq] at hbo
   obtain ⟨rfl, rfl, -⟩ := hbo
   rw [hc']; simp [List.getD, hj])
  rw [List.take_length] at hcon
  exact hcon.mono fun e w' ⟨h1, h2⟩ => ⟨h1, h2.symm⟩
end Go.Proofs.YtdlkjppppdminaaGreatDoor
/- order.Edges, walked. -/
namespace Go.Proofs.YtdlkjppppdminaaGreatDoor
open Go Go.RowKit Go.Sep
theorem writers_put {l : List Op1} {M : List (Int × List Int)} {i : Nat} {o : Op1} (h : ∀ k, (mget M k).getD [] = writers (l.take i) k) (hp : l[i]? = some o) (hw : o.wr = true) (hl : (writers (l.take i) o.key).getLast? ≠ some o.tx) :
  ∀ k, (mget (mput M o.key (writers (l.take i) o.key ++ [o.tx])) k).getD [] = writers (l.take (i + 1)) k := by
 intro k
 rw [take_succ_get hp, writers_snoc, mget_put]
 unfold wstep wput
 by_cases e : k = o.key
 ·subst e
  simp [hw, hl]
 ·have e' : ¬ o.key = k := fun x => e x.symm
  simp [e, e', h k]
theorem writers_same {l : List Op1} {M : List (Int × List Int)} {i : Nat} {o : Op1} (h : ∀ k, (mget M k).getD [] = writers (l.take i) k) (hp : l[i]? = some o) (hw : o.wr = false ∨ (writers (l.take i) o.key).getLast? = some o.tx) :
  ∀ k, (mget M k).getD [] = writers (l.take (i + 1)) k := by
 intro k
 rw [take_succ_get hp, writers_snoc, h k]
 unfold wstep wput
 rcases hw with hw | hw
 ·simp [hw]
 ·by_cases e : o.key = k
  ·subst e
   simp [hw]
  ·simp [e]
theorem mput_le {κ ν : Type} [DecidableEq κ] (D : List (κ × ν)) (k : κ) (v : ν) : (mput D k v).length ≤ D.length + 1 := by
 unfold mput; split <;> simp
theorem idxFrom_cases (x : Int) : ∀ (l : List Int) (i : Nat), (Lib.idxFrom l x i = -1 ∧ x ∉ l) ∨ ∃ k : Nat, Lib.idxFrom l x i = ((i + k : Nat) : Int) ∧ k < l.length ∧ x ∈ l
 | [], i => .inl ⟨rfl, by simp⟩
 | y :: l, i => by
  unfold Lib.idxFrom
  by_cases h : y = x
  ·rw [if_pos h]
   exact .inr ⟨0, rfl, by simp, by simp [h]⟩
  ·rw [if_neg h]
   rcases idxFrom_cases x l (i + 1) with ⟨h1, h2⟩ | ⟨k, h1, h2, h3⟩
   ·exact .inl ⟨h1, by simp [h2]; exact fun e => h e.symm⟩
   ·exact .inr ⟨k + 1, by rw [h1]; congr 1; omega, by simpa using h2, by simp [h3]⟩
theorem idxOf_cases (l : List Int) (x : Int) : (Lib.idxOf l x = -1 ∧ x ∉ l) ∨ ∃ k : Nat, Lib.idxOf l x = k ∧ k < l.length ∧ x ∈ l := by
 rcases idxFrom_cases x l 0 with h | ⟨k, h1, h2⟩
 ·exact .inl h
 ·exact .inr ⟨k, by unfold Lib.idxOf; rw [h1]; congr 1; omega, h2⟩
theorem nodup_leO {α : Type} : ∀ {l m : List α}, l.Nodup → (∀ x ∈ l, x ∈ m) → l.length ≤ m.length
 | [], _, _, _ => Nat.zero_le _
 | a :: l, m, hn, hs => by
  obtain ⟨m1, m2, rfl⟩ := List.append_of_mem (hs a (by simp))
  rw [List.nodup_cons] at hn
  have := nodup_leO (l := l) (m := m1 ++ m2) hn.2 (fun x hx => by
   have h1 := hs x (by simp [hx])
   have hne : x ≠ a := fun e => hn.1 (by rw [← e]; exact hx)
   simp only [List.mem_append, List.mem_cons] at h1 ⊢
   rcases h1 with h | h | h
   ·exact .inl h
   ·exact absurd h hne
   ·exact .inr h)
  simp only [List.length_append, List.length_cons] at this ⊢; omega
theorem _root_.Go.Sep.S.edge_back {w0 w : World} {L : List HProp} {A B : HProp} {T bl : Nat} {E : List (Int × (Value × List Int))} {k : Int} {M : List (Int × List Int)}
  (h : S w0 w (A :: sl T 1 (lineOf E k).1 (lineOf E k).2.length (icells (lineOf E k).2) :: mlX T bl E k M :: B :: L)) : S w0 w (A :: mlM T bl E M :: L) := by
 have h1 := h.conv (M := sl T 1 (lineOf E k).1 (lineOf E k).2.length (icells (lineOf E k).2) :: mlX T bl E k M :: B :: A :: L) (by simp only [all]; ac_rfl)
 exact (h1.mlX_back.swap.tail).swap
def gE (p : Int × (Value × List Int)) : List (Int × Int) := wEdges p.2.2 (p.2.2.length - 1)
theorem gE_le {dn : List (Int × (Value × List Int))} (h : ∀ p ∈ dn, p.2.2.length ≤ 5000) : (dn.flatMap gE).length ≤ dn.length * 5000 := by
 induction dn with
 | nil => simp
 | cons p dn ih =>
  have h1 := wEdges_le p.2.2 (p.2.2.length - 1)
  have h2 := h p (by simp)
  have h3 := ih fun q hq => h q (by simp [hq])
  have h4 : (gE p).length ≤ 5000 := by unfold gE; omega
  simp only [List.flatMap_cons, List.length_append, List.length_cons]
  omega
def EdgesPost (w0 : World) (l : List Op1) (L : List HProp) (e : Ending) (w' : World) : Prop :=
 if 0 ≤ badIx l then ∃ v, e = .returned (.tuple #[.slice none 0 0, v]) ∧ S w0 w' (errP 54 97 95 v (.at_ 2 (badIx l)) :: L)
 else match l.findIdx? (lostRead l) with
  | some k => ∃ v, e = .returned (.tuple #[.slice none 0 0, v]) ∧ S w0 w' (errP 54 97 95 v (.at_ 1 k) :: L)
  | none => ∃ v es, e = .returned (.tuple #[v, .nilIface]) ∧ EdgesOf l es ∧ es.length ≤ 40000000 ∧ S w0 w' (sl 91 2 v es.length (pcells es) :: L)
set_option maxRecDepth 40000 in
set_option maxHeartbeats 8000000 in
theorem edges_any (w0 w : World) (v : Value) (l : List Op1) (L : List HProp) (hs : S w0 w L) (hr : RdK w0 L v l.length (fcells ocells l)) (hb : l.length ≤ 5000)
  (hbd : ∀ o ∈ l, o.tx ≤ 9223372036854775807 ∧ o.fr ≤ 9223372036854775807) :
  Calls Tryz.prog 111 #[v] w (EdgesPost w0 l L) := by
 obtain ⟨a, cap, hv, hcap, hcap2, _⟩ := hr w hs
 subst hv
 unfold maxLen at hcap2
 have hcall := bad_any w0 w _ l L hs hr (by omega)
 have HC := hid hcall; have HR := hid hr; have HBD := hid hbd
 clear hcall hr hs hbd
 go_enter Tryz.func111, Tryz.ntmps111
 go_wp2_with fail
 with_reducible refine HC.out.mono ?_
 rintro e w1 ⟨rfl, hs1⟩
 rcases badIx_cases l with ⟨hbx, hok⟩ | ⟨k, hbx, hkl, _⟩
 ·have hPost : ∀ e w', (match l.findIdx? (lostRead l) with
    | some k => ∃ v, e = Ending.returned (.tuple #[.slice none 0 0, v]) ∧ S w0 w' (errP 54 97 95 v (.at_ 1 k) :: L)
    | none => ∃ v es, e = Ending.returned (.tuple #[v, .nilIface]) ∧ EdgesOf l es ∧ es.length ≤ 40000000 ∧ S w0 w' (sl 91 2 v es.length (pcells es) :: L)) → EdgesPost w0 l L e w' := by
   intro e w' h
   unfold EdgesPost
   rw [if_neg (by omega)]
   exact h
  have HP := hid hPost; have HOK := hid hok
  clear hPost hok HC
  rw [hbx]
  have hs2 := hs1.ml_new (T := 3)
  have H2 := hid hs2
  clear hs1 hs2 hbx
  have hmm := @run_makeMap Tryz.prog
  go_wp2_with fail
  clear hmm
  go_loopw [29] (fun iv wr => ∃ (i : Nat) (E : List (Int × (Value × List Int))) (M : List (Int × List Int)), i ≤ l.length ∧ iv = .int .i64 i ∧ M.length ≤ i ∧ Hid (∀ k, (mget M k).getD [] = writers (l.take i) k) ∧ S w0 wr (mlM 3 w1.heap.size E M :: L)) (fun iv _ => l.length - (intOf iv).toNat)
  case atStart => exact ⟨0, [], [], Nat.zero_le _, rfl, Nat.le_refl _, hid (fun k => by simp [writers, mget_nil]), H2.out⟩
  case round =>
   obtain ⟨i, E, M, hi, rfl, hml, hM, hsr⟩ := hrel
   clear H2
   by_cases hlt : i < l.length
   ·have hp : l[i]? = some l[i] := by simp [hlt]
    generalize l[i] = p at hp
    obtain ⟨ob, oo, rfl, hcell⟩ := HR.out.fc ocells_length hsr.tail hp (by omega)
    obtain ⟨tx, key, wr', fr⟩ := p
    have d0 := hcell _ hsr.tail 0 _ rfl
    have d1 := hcell _ hsr.tail 1 _ rfl
    have d2 := hcell _ hsr.tail 2 _ rfl
    have d3 := hcell _ hsr.tail 3 _ rfl
    simp only [Nat.add_zero] at d0 d1 d2 d3
    have hs3 := (hsr.alloc #[.int .i64 tx, .int .i64 key, .bool wr', .int .i64 fr] 121).swap
    have hln := line_ofM hsr.ml_parts.1 key
    have hMk := hM.out key
    have lL := Tryz.lookL hs3.ml_see key
    have hkl := hs3.ml_line key
    obtain ⟨al, cl, hvl, hcl, hcl2, _⟩ := hkl.sl_val
    unfold maxLen at hcl2
    rw [hvl] at lL hkl
    rw [hln, hMk] at lL hkl hcl
    have HB := hid hs3.drew.swap.tail
    have hws := writers_le (l.take i) key
    rw [List.length_take] at hws
    have HP2 := hid hp
    clear hcell hsr hs3 hln hMk hvl hp
    cases wr' with
    | false =>
     have hM2 := writers_same hM.out HP2.out (.inl rfl)
     have HM := hid hM2
     clear hM2 hkl hM
     go_wp2_with fail
     go_region
     go_wp2_with fail
     go_roundw
     case rel => exact ⟨i + 1, E, M, by omega, by go_num, by omega, HM, HB.out⟩
     case measure => simp [intOf]; omega
    | true =>
     generalize hwse : writers (l.take i) key = ws at lL hkl hcl hws
     have hs5 := (hkl.alloc #[.int .i64 tx] 3).drew.drew
     rw [World.size_alloc] at hs5
     have hn5 := news_blk hs5
     have hs6 := hs5.tail
     have hbx := (hkl.of_mem (A := blk wr.heap.size 121 [.int .i64 tx, .int .i64 key, .bool true, .int .i64 fr]) (by simp))
     have hby := (hs6.of_mem (A := blk wr.heap.size 121 [.int .i64 tx, .int .i64 key, .bool true, .int .i64 fr]) (by simp))
     have b0 := hbx.blk_cell 0 rfl
     have b1 := hbx.blk_cell 1 rfl
     have b2 := hbx.blk_cell 2 rfl
     have g0 := hby.blk_cell 0 rfl
     have g1 := hby.blk_cell 1 rfl
     obtain ⟨i0, hi0, hz0, hz1, hz2⟩ := info_parts Tryz.info3
     have hil := icells_length ws
     have HL := hid hil
     have HA : Hid ((writers (l.take i) key).getLast? ≠ some tx → ∀ k, (mget (mput M key (ws ++ [tx])) k).getD [] = writers (l.take (i + 1)) k) := hid fun h => by
      have := writers_put hM.out HP2.out rfl h
      rw [hwse] at this
      exact this
     rw [hwse] at HA
     clear hil hbx hby hs5
     rcases List.eq_nil_or_concat ws with rfl | ⟨ini, q, hq⟩
     ·have H6 := hid hs6; have HN := hid hn5
      have HK := hid (HA.out (by simp))
      clear hkl hs6 hn5 hM HB HP2 HA
      simp only [List.length_nil] at lL
      go_wp2_with fail
      go_region
      go_wp2_with fail
      go_region_law (refine step_append rfl (.tmp 58) (.tmp 61) 47 rfl 3 i0 _ 1 8 Tryz.underlying47 hi0 hz0 hz1 hz2 rfl (by decide) H6.out rfl (some ⟨wr.heap.size + 1, 0, none⟩) 1 1 [.int .i64 tx] rfl rfl HN.out (by simp [Value.oneCell']) (by unfold maxLen; omega) (by omega) ?_; intro v1 w5 hs7; have q1 := (hs7.of_mem (A := blk wr.heap.size 121 [.int .i64 tx, .int .i64 key, .bool true, .int .i64 fr]) (by simp)).blk_cell 1 rfl; obtain ⟨w6, u6, hs8⟩ := S.mlX_put Tryz.keyInt Tryz.underlying102 (k := key) (v := v1) (l := [] ++ [tx]) (by simpa [icells] using hs7); simp only [Sep.encI] at u6; have HS := hid hs8.swap.tail; clear hs7 hs8)
      all_goals
       go_wp2_with fail
       go_roundw
       case rel => exact ⟨i + 1, _, _, by omega, by go_num, Nat.le_trans (mput_le _ _ _) (by omega), HK, HS.out⟩
       case measure => simp [intOf]; omega
     ·have hwl : ws.length = ini.length + 1 := by rw [hq]; simp
      have hqg : ws[ini.length]? = some q := by rw [hq]; simp
      have hlast : ws.getLast? = some q := by rw [hq]; simp
      clear hq
      generalize ini.length = n at hwl hqg
      obtain ⟨gw, ow, rfl, _, d9⟩ := hkl.sl_int hqg
      have hj1 : ((n : Int) + 1) - 1 = n := by omega
      have hn0 : ((n : Int) + 1 == 0) = false := by rw [beq_eq_false_iff_ne]; omega
      rw [hwl] at lL hcl hs6 hws
      by_cases hqt : q = tx
      ·subst hqt
       have hne : (q != q) = false := by simp
       have hM2 := writers_same hM.out HP2.out (.inr (by rw [hwse]; exact hlast))
       have HM := hid hM2
       clear hM2 hkl hM hs6 hn5 HA HL HP2 hlast hqg hwse hwl
       go_wp2_with fail
       go_region
       go_wp2_with fail
       go_roundw
       case rel => exact ⟨i + 1, E, M, by omega, by go_num, by omega, HM, HB.out⟩
       case measure => simp [intOf]; omega
      ·have hne : (q != tx) = true := by simpa using hqt
       have H6 := hid hs6; have HN := hid hn5
       have HK := hid (HA.out (by rw [hlast]; simpa using hqt))
       have HL2 : Hid (ws.length = n + 1) := hid hwl
       clear hkl hs6 hn5 hM HB HP2 HA HL hqt hlast hqg hwse hwl
       go_wp2_with fail
       go_region
       go_wp2_with fail
       go_region_law (refine step_append rfl (.tmp 58) (.tmp 61) 47 rfl 3 i0 _ 1 8 Tryz.underlying47 hi0 hz0 hz1 hz2 rfl (by decide) H6.out rfl (some ⟨wr.heap.size + 1, 0, none⟩) 1 1 [.int .i64 tx] rfl rfl HN.out (by simp [Value.oneCell']) (by unfold maxLen; omega) (by omega) ?_; intro v1 w5 hs7; have q1 := (hs7.of_mem (A := blk wr.heap.size 121 [.int .i64 tx, .int .i64 key, .bool true, .int .i64 fr]) (by simp)).blk_cell 1 rfl; obtain ⟨w6, u6, hs8⟩ := S.mlX_put Tryz.keyInt Tryz.underlying102 (k := key) (v := v1) (l := ws ++ [tx]) (by rw [List.length_append, List.length_singleton, HL2.out, icells_append]; exact hs7); simp only [Sep.encI] at u6; have HS := hid hs8.swap.tail; clear hs7 hs8)
       all_goals
        go_wp2_with fail
        go_roundw
        case rel => exact ⟨i + 1, _, _, by omega, by go_num, Nat.le_trans (mput_le _ _ _) (by omega), HK, HS.out⟩
        case measure => simp [intOf]; omega
   ·--P2
    obtain rfl : i = l.length := by omega
    have hM1 := hM.out
    rw [List.take_length] at hM1
    have HM := hid hM1
    clear hM hM1
    have hp1 := hsr.ml_parts.1
    have hel : E.length = M.length := by rw [← hp1, List.length_map]
    have hnd := hsr.ml_nodup
    have hs4 := S.out_intro (tv := 70) (te := 91) (l := []) ((hsr.alloc #[.slice none 0 0] 70).perm (M := _ :: _) (List.Perm.refl _) |>.sl_nil.swap)
    obtain ⟨hp2, hs5⟩ := hs4.swap.ml_parts
    obtain ⟨w3, ur, hs6⟩ := hs5.range (P := Tryz.prog) Tryz.underlying102
    rw [World.size_alloc] at ur hs6
    have H6 := hid (hs6.conv (M := outP 70 91 wr.heap.size [] :: ranging Sep.encI (fun _ => True) w1.heap.size (wr.heap.size + 1) (E.map fun p => (p.1, p.2.1)) [] :: all (E.map (lrow 3)) :: L) (by simp only [all]; ac_rfl))
    have HND := hid hnd; have HP1 := hid hp1
    clear hsr hs4 hs5 hs6 hp1 hp2 hnd
    have hwl : ∀ p ∈ E, p.2.2.length ≤ 5000 := fun p hp => by
     have h1 : (p.1, p.2.2) ∈ M := by rw [← HP1.out]; exact List.mem_map.2 ⟨p, hp, rfl⟩
     have h2 := HM.out p.1
     rw [mget_mem (by rw [← HP1.out]; simpa [List.map_map, Function.comp_def] using HND.out) h1] at h2
     simp only [Option.getD_some] at h2
     rw [h2]; exact Nat.le_trans (writers_le _ _) hb
    have HWL := hid hwl
    clear hwl
    go_wp2_with fail
    go_loopg [13] (E.length) (fun n _ wx => ∃ dn : List (Int × (Value × List Int)), E.length ≤ dn.length + n ∧ (∀ p ∈ dn, p ∈ E) ∧
     S w0 wx (outP 70 91 wr.heap.size (dn.flatMap gE) :: ranging Sep.encI (fun _ => True) w1.heap.size (wr.heap.size + 1) (E.map fun p => (p.1, p.2.1)) (dn.map fun p => (p.1, p.2.1)) :: all (E.map (lrow 3)) :: L))
    case atStart => exact ⟨[], by simp, by simp, H6.out⟩
    case round =>
     rename World => wx
     obtain ⟨dn, hn, hsub, hsr⟩ := hrel
     clear H6 ur
     rcases hsr.swap.next Tryz.keyInt (ty := 0) with ⟨d, w4, hd1, hd2, hr, hs4⟩ | ⟨hall, hr⟩
     ·obtain ⟨p, hp, rfl⟩ := List.mem_map.1 hd1
      have hent := hs4.entry (P := Tryz.prog)
      have hsn : (dn.map fun p : Int × (Value × List Int) => (p.1, p.2.1)) ++ [(p.1, p.2.1)] = (dn ++ [p]).map fun p => (p.1, p.2.1) := by simp
      rw [hsn] at hs4
      simp only [Sep.encI] at hr hent
      have hlen : (dn ++ [p]).length ≤ E.length := by
       have h1 := hs4.ranging_sub
       have h2 := nodup_leO h1.1 h1.2.1
       simpa using h2
      rw [List.length_append, List.length_singleton] at hlen
      have hpl := HWL.out p hp
      have hol := gE_le (dn := dn) fun q hq => HWL.out q (hsub q hq)
      have hsub2 : ∀ q ∈ dn ++ [p], q ∈ E := fun q hq => by
       rcases List.mem_append.1 hq with h | h
       ·exact hsub q h
       ·rw [List.mem_singleton] at h; subst h; exact hp
      have hfm : (dn ++ [p]).flatMap gE = dn.flatMap gE ++ gE p := by simp
      obtain ⟨E1, E2, hE⟩ := List.append_of_mem hp
      have hq : all (E.map (lrow 3)) = sep (lrow 3 p) (all ((E1 ++ E2).map (lrow 3))) := by
       rw [hE]; simp only [List.map_append, List.map_cons, all_append, all]; ac_rfl
      have hs5 := hs4.conv (M := outP 70 91 wr.heap.size (dn.flatMap gE) :: sl 3 1 p.2.1 p.2.2.length (icells p.2.2) :: ranging Sep.encI (fun _ => True) w1.heap.size (wr.heap.size + 1) (E.map fun p => (p.1, p.2.1)) ((dn ++ [p]).map fun p => (p.1, p.2.1)) :: all ((E1 ++ E2).map (lrow 3)) :: L) (by simp only [all]; rw [hq]; unfold lrow; ac_rfl)
      obtain ⟨pk, pv, ws⟩ := p
      simp only at hs5 hr hent hpl hlen
      obtain ⟨al, cl, rfl, hcl, hcl2, _⟩ := hs5.swap.sl_val
      unfold maxLen at hcl2
      have H5 := hid hs5; have HQ := hid hq; have HF := hid hfm; have HS2 := hid hsub2
      clear hs5 hs4 hsr hd1 hd2 hp hsn hE hq hfm hsub hsub2
      go_wp2_with fail
      clear hr hent
      go_loopw [13] (fun iv wy => ∃ j : Nat, (j + 1 ≤ ws.length ∨ j = 0) ∧ iv = .int .i64 ((j : Int) + 1) ∧
       S w0 wy (outP 70 91 wr.heap.size (dn.flatMap gE ++ wEdges ws j) :: sl 3 1 (.slice al ws.length cl) ws.length (icells ws) :: ranging Sep.encI (fun _ => True) w1.heap.size (wr.heap.size + 1) (E.map fun p => (p.1, p.2.1)) ((dn ++ [((pk, (Value.slice al ws.length cl, ws)) : Int × (Value × List Int))]).map fun p => (p.1, p.2.1)) :: all ((E1 ++ E2).map (lrow 3)) :: L)) (fun iv _ => ws.length - (intOf iv).toNat)
      case atStart => exact ⟨0, .inr rfl, rfl, by rw [show wEdges ws 0 = [] from rfl, List.append_nil]; exact H5.out⟩
      case round =>
       rename World => wy
       obtain ⟨j, hj, rfl, hsr⟩ := hrel
       clear H5
       by_cases hjl : j + 1 < ws.length
       ·have hpa : ws[j]? = some ws[j] := by rw [List.getElem?_eq_getElem]
        have hpb : ws[j + 1]? = some ws[j + 1] := by simp [hjl]
        generalize ws[j] = x at hpa
        generalize ws[j + 1] = y at hpb
        have hwe : wEdges ws (j + 1) = wEdges ws j ++ addE x y := by simp only [wEdges, hpa, hpb]
        have hle := wEdges_le ws j
        obtain ⟨ga, oa, rfl, _, d0⟩ := hsr.swap.sl_int hpa
        obtain ⟨gb, ob, hgb, _, d1⟩ := hsr.swap.sl_int (a := some ⟨ga, oa, none⟩) hpb
        obtain ⟨rfl, rfl⟩ : ga = gb ∧ oa = ob := by simpa using hgb
        have hj1 : (j : Int) + 1 - 1 = j := by omega
        have hjw : j < ws.length := by omega
        have hj9 : j ≤ 5000 := by omega
        have hj0 : (0 : Int) ≤ (j : Int) + 1 := by omega
        have hwr : IntKind.i64.wrap (j : Int) = j := IntWalk.i64_in _ (by omega)
        have hbl : (dn.flatMap gE ++ wEdges ws j).length ≤ 40000000 := by rw [List.length_append]; omega
        have H7 := hid hsr.drew; have HW := hid hwe
        clear hsr hpa hpb hwe hgb
        go_wp2_with fail
        go_region_law (go_simp; first | (go_at_call 144; with_reducible refine (add_any w0 _ _ _ x y _ H7.out hbl).mono ?_; rintro e w5 ⟨rfl, hs5⟩; rw [List.append_assoc, ← HW.out] at hs5; have H8 := hid hs5; clear hs5))
        all_goals
         go_wp2_with fail
         go_roundw
         case rel => exact ⟨j + 1, by omega, by go_num, H8.out⟩
         case measure => simp [intOf]; omega
       ·have hjj : wEdges ws j = gE (pk, (Value.slice al ws.length cl, ws)) := by
         unfold gE
         show wEdges ws j = wEdges ws (ws.length - 1)
         congr 1
         omega
        have HJ := hid hjj; have H7 := hid hsr
        clear hsr hjj
        go_wp2_with fail
        go_roundg (gk - 1)
        case measure => omega
        case rel => exact ⟨dn ++ [(pk, (Value.slice al ws.length cl, ws))], by rw [List.length_append, List.length_singleton]; omega, HS2.out, by
         rw [HF.out, ← HJ.out]
         exact H7.out.conv (by simp only [all]; rw [HQ.out]; unfold lrow; ac_rfl)⟩
     ·--P3
      obtain ⟨hpd, hs4⟩ := hsr.swap.range_over hall
      have hmem : ∀ x, (∃ d ∈ M, x ∈ wEdges d.2 (d.2.length - 1)) ↔ x ∈ dn.flatMap gE := by
       intro x
       rw [List.mem_flatMap, ← HP1.out]
       constructor
       ·rintro ⟨d, hd, hx⟩
        obtain ⟨p, hp, rfl⟩ := List.mem_map.1 hd
        obtain ⟨q, hq, he⟩ := List.mem_map.1 (hall _ (List.mem_map.2 ⟨p, hp, rfl⟩))
        have h1 := mget_mem HND.out (show (p.1, p.2) ∈ E from hp)
        have h2 := mget_mem HND.out (show (q.1, q.2) ∈ E from hsub q hq)
        have h3 : q.1 = p.1 := (Prod.mk.inj he).1
        rw [h3, h1] at h2
        refine ⟨q, hq, ?_⟩
        have h4 : p.2 = q.2 := Option.some.inj h2
        unfold gE
        rw [← h4]; exact hx
       ·rintro ⟨q, hq, hx⟩
        exact ⟨(q.1, q.2.2), List.mem_map.2 ⟨q, hsub q hq, rfl⟩, hx⟩
      have hdl : dn.length ≤ 5000 := by
       have h1 := hpd.length_eq
       simp only [List.length_map] at h1
       omega
      have hol := gE_le (dn := dn) fun q hq => HWL.out q (hsub q hq)
      have hfin := (S.ml_join HP1.out (hs4.conv (M := mp Sep.encI (fun _ => True) w1.heap.size (E.map fun p => (p.1, p.2.1)) :: all (E.map (lrow 3)) :: outP 70 91 wr.heap.size (dn.flatMap gE) :: L) (by simp only [all]; ac_rfl))).swap
      generalize dn.flatMap gE = O1 at hmem hol hfin
      have HME := hid hmem; have H8 := hid hfin
      have ho1 : O1.length ≤ 25000000 := by omega
      clear hsr hall hs4 hpd hmem hfin hsub hol hdl hn HWL
      go_wp2_with fail
      go_loopw [90] (fun iv wz => ∃ i : Nat, i ≤ l.length ∧ iv = .int .i64 i ∧ Hid (∀ j < i, ∀ o, l[j]? = some o → lostRead l o = false) ∧
       S w0 wz (outP 70 91 wr.heap.size (O1 ++ rEdges l (l.take i)) :: mlM 3 w1.heap.size E M :: L)) (fun iv _ => l.length - (intOf iv).toNat)
      case atStart => exact ⟨0, Nat.zero_le _, rfl, hid (fun _ h => absurd h (Nat.not_lt_zero _)), by simpa [rEdges] using H8.out⟩
      case round =>
       rename World => wz
       obtain ⟨i, hi, rfl, hlo, hsr⟩ := hrel
       clear H8
       have hrl := rEdges_le l (l.take i)
       rw [List.length_take] at hrl
       have hol : (O1 ++ rEdges l (l.take i)).length ≤ 39000000 := by rw [List.length_append]; omega
       by_cases hlt : i < l.length
       ·have hp : l[i]? = some l[i] := by simp [hlt]
        generalize l[i] = p at hp
        obtain ⟨ob, oo, rfl, hcell⟩ := HR.out.fc ocells_length hsr.tail.tail hp (by omega)
        obtain ⟨tx, key, wr', fr⟩ := p
        have d0 := hcell _ hsr.tail.tail 0 _ rfl
        have d1 := hcell _ hsr.tail.tail 1 _ rfl
        have d2 := hcell _ hsr.tail.tail 2 _ rfl
        have d3 := hcell _ hsr.tail.tail 3 _ rfl
        simp only [Nat.add_zero] at d0 d1 d2 d3
        have hs3 := hsr.alloc #[.int .i64 tx, .int .i64 key, .bool wr', .int .i64 fr] 121
        have hst : rEdges l (l.take (i + 1)) = rEdges l (l.take i) ++ rEdge (writers l key) ⟨tx, key, wr', fr⟩ := by rw [take_succ_get hp, rEdges_snoc]
        have hnext : lostRead l ⟨tx, key, wr', fr⟩ = false → ∀ j < i + 1, ∀ o, l[j]? = some o → lostRead l o = false := by
         intro h j hj o ho
         rcases Nat.lt_or_ge j i with h1 | h1
         ·exact hlo.out j h1 o ho
         ·obtain rfl : j = i := by omega
          rw [hp] at ho; cases ho; exact h
        have hMk := HM.out key
        have hln := line_ofM HP1.out key
        have lL := Tryz.lookL hs3.rot3.ml_see key
        have HNX := hid hnext
        clear hcell hsr hnext
        cases wr' with
        | true =>
         have HLO := hid (HNX.out (by simp [lostRead]))
         have H9 := hid hs3.tail
         have HST := hid hst
         clear hs3 hst hMk hln hlo hp
         go_wp2_with fail
         go_roundw
         case rel => exact ⟨i + 1, by omega, by go_num, HLO, by rw [HST.out]; simp only [rEdge, ↓reduceIte, List.append_nil]; exact H9.out⟩
         case measure => simp [intOf]; omega
        | false =>
         have hkl := hs3.rot3.ml_line key
         obtain ⟨al, cl, hvl, hcl, hcl2, _⟩ := hkl.sl_val
         unfold maxLen at hcl2
         rw [hvl] at lL hkl
         rw [hln, hMk] at lL hkl hcl
         rw [hln, hMk] at hvl
         have hwl := writers_le l key
         have HVL := hid hvl; have HLN := hid (hln.trans hMk)
         generalize hwse : writers l key = ws at lL hkl hcl hwl hst HVL HLN
         have hix := ixint_any w0 _ _ ws fr _ hkl RdK.own (by omega)
         have HIX := hid hix
         have H9 := hid (hkl.conv (M := outP 70 91 wr.heap.size (O1 ++ rEdges l (l.take i)) :: sl 3 1 (.slice al ws.length cl) ws.length (icells ws) :: mlX 3 w1.heap.size E key M :: blk wz.heap.size 121 [.int .i64 tx, .int .i64 key, .bool false, .int .i64 fr] :: L) (by simp only [all]; ac_rfl))
         clear hs3 hvl hln hMk hkl hix
         go_wp2_with fail
         with_reducible refine HIX.out.mono ?_
         rintro e w4 ⟨rfl, rfl⟩
         rcases idxOf_cases ws fr with ⟨hx, hnm⟩ | ⟨k, hx, hkl, hmem⟩
         ·by_cases hfr : fr = 0
          ·subst hfr
           have hw0 : IntKind.i64.wrap 0 = 0 := by decide
           have HLO := hid (HNX.out (by simp [lostRead]))
           have hnx : nextOf ws 0 = ws[0]? := by unfold nextOf; rw [hx]; congr 1
           have hre : rEdge ws ⟨tx, key, false, 0⟩ = addE 0 tx ++ (match ws[0]? with | some b => addE tx b | none => []) := by unfold rEdge; rw [hnx]; rfl
           rw [hre] at hst
           have HST := hid hst
           have hol1 : (O1 ++ rEdges l (l.take i)).length ≤ 40000000 := by omega
           rw [hx]
           clear hnx hre hst hx hnm hlo hp hwse HIX lL HNX
           by_cases hnl : 0 < ws.length
           ·have hpy : ws[0]? = some ws[0] := by simp [hnl]
            generalize ws[0] = y at hpy
            go_wp2_with (go_at_call 144; with_reducible refine (add_any w0 _ _ _ 0 tx _ H9.out hol1).mono ?_; rintro e w5 ⟨rfl, hs5⟩; have q0 := (hs5.of_mem (A := blk wz.heap.size 121 [.int .i64 tx, .int .i64 key, .bool false, .int .i64 0]) (by simp)).blk_cell 0 rfl; have H10 := hid hs5; clear hs5)
            obtain ⟨ga, oa, rfl, _, d9⟩ := H10.out.swap.sl_int hpy
            rw [Nat.add_zero] at d9
            have hol2 : ((O1 ++ rEdges l (l.take i)) ++ addE 0 tx).length ≤ 40000000 := by have := addE_le 0 tx; rw [List.length_append]; omega
            have H11 := hid H10.out.drew
            rw [hpy] at HST
            clear hpy
            go_region_law (go_simp; first | (go_at_call 144; with_reducible refine (add_any w0 _ _ _ tx y _ H11.out hol2).mono ?_; rintro e w6 ⟨rfl, hs6⟩; have H12 := hid (hs6.conv (M := outP 70 91 wr.heap.size ((O1 ++ rEdges l (l.take i)) ++ addE 0 tx ++ addE tx y) :: sl 3 1 (lineOf E key).1 (lineOf E key).2.length (icells (lineOf E key).2) :: mlX 3 w1.heap.size E key M :: blk wz.heap.size 121 [.int .i64 tx, .int .i64 key, .bool false, .int .i64 0] :: L) (by rw [HVL.out, HLN.out])); clear hs6))
            all_goals
             go_wp2_with fail
             go_roundw
             case rel => exact ⟨i + 1, by omega, by go_num, HLO, by rw [HST.out, ← List.append_assoc, ← List.append_assoc]; exact S.edge_back H12.out⟩
             case measure => simp [intOf]; omega
           ·have hpy : ws[0]? = none := List.getElem?_eq_none (by omega)
            have hnl4 : (ws.length : Int) ≤ 0 := by omega
            go_wp2_with (go_at_call 144; with_reducible refine (add_any w0 _ _ _ 0 tx _ H9.out hol1).mono ?_; rintro e w5 ⟨rfl, hs5⟩; have q0 := (hs5.of_mem (A := blk wz.heap.size 121 [.int .i64 tx, .int .i64 key, .bool false, .int .i64 0]) (by simp)).blk_cell 0 rfl; have H10 := hid hs5; clear hs5)
            rw [hpy] at HST
            have H12 := hid (H10.out.conv (M := outP 70 91 wr.heap.size ((O1 ++ rEdges l (l.take i)) ++ addE 0 tx) :: sl 3 1 (lineOf E key).1 (lineOf E key).2.length (icells (lineOf E key).2) :: mlX 3 w1.heap.size E key M :: blk wz.heap.size 121 [.int .i64 tx, .int .i64 key, .bool false, .int .i64 0] :: L) (by rw [HVL.out, HLN.out]))
            clear hpy
            go_roundw
            case rel => exact ⟨i + 1, by omega, by go_num, HLO, by rw [HST.out, ← List.append_assoc]; simp only [List.append_nil]; exact S.edge_back H12.out⟩
            case measure => simp [intOf]; omega
          ·have hlk : lostRead l ⟨tx, key, false, fr⟩ = true := by simp [lostRead, hfr, hwse, hnm]
           have hfi : l.findIdx? (lostRead l) = some i := by
            rw [List.findIdx?_eq_some_iff_getElem]
            refine ⟨hlt, ?_, fun j hj => ?_⟩
            ·obtain ⟨_, h2⟩ := List.getElem?_eq_some_iff.1 hp
             rw [h2]; exact hlk
            ·have := hlo.out j hj l[j] (by rw [List.getElem?_eq_getElem])
             simp [this]
           have hfr1 : (fr != 0) = true := by simpa using hfr
           have hfin := (H9.out.tail.tail.tail.tail).alloc #[.int .i64 1, .int .i64 i] 97
           rw [World.size_alloc] at hfin
           have HF := hid hfin; have HFI := hid hfi
           rw [hx]
           clear hlk hfi hfin hfr hx hnm hlo hp hwse HIX lL HNX hst
           go_wp2_with fail
           go_ret2
           refine HP.out _ _ ?_
           rw [HFI.out]
           exact ⟨_, rfl, .ex_intro (wz.heap.size + 1) (.sep_intro (.pur_intro rfl HF.out))⟩
         ·have hnm : fr ∈ ws := hmem
          have HLO := hid (HNX.out (by simp [lostRead, hwse, hmem]))
          have hk9 : k ≤ 5000 := by omega
          have hwk : IntKind.i64.wrap ((k : Int) + 1) = (k : Int) + 1 := IntWalk.i64_in _ (by omega)
          have hwk2 : IntKind.i64.wrap (k : Int) = (k : Int) := IntWalk.i64_in _ (by omega)
          clear hmem
          have hnx : nextOf ws fr = ws[(k + 1)]? := by unfold nextOf; rw [hx]; congr 1
          have hre : rEdge ws ⟨tx, key, false, fr⟩ = addE fr tx ++ (match ws[(k + 1)]? with | some b => addE tx b | none => []) := by unfold rEdge; rw [hnx]; rfl
          rw [hre] at hst
          have HST := hid hst
          have hol1 : (O1 ++ rEdges l (l.take i)).length ≤ 40000000 := by omega
          rw [hx]
          clear hnx hre hst hx hnm hlo hp hwse HIX lL HNX
          by_cases hnl : (k + 1) < ws.length
          ·have hpy : ws[(k + 1)]? = some ws[(k + 1)] := by simp [hnl]
           generalize ws[(k + 1)] = y at hpy
           go_wp2_with (go_at_call 144; with_reducible refine (add_any w0 _ _ _ fr tx _ H9.out hol1).mono ?_; rintro e w5 ⟨rfl, hs5⟩; have q0 := (hs5.of_mem (A := blk wz.heap.size 121 [.int .i64 tx, .int .i64 key, .bool false, .int .i64 fr]) (by simp)).blk_cell 0 rfl; have H10 := hid hs5; clear hs5)
           obtain ⟨ga, oa, rfl, _, d9⟩ := H10.out.swap.sl_int hpy
           have hk0 : (0 : Int) ≤ (k : Int) + 1 := by omega
           have hol2 : ((O1 ++ rEdges l (l.take i)) ++ addE fr tx).length ≤ 40000000 := by have := addE_le fr tx; rw [List.length_append]; omega
           have H11 := hid H10.out.drew
           rw [hpy] at HST
           clear hpy
           go_region_law (go_simp; first | (go_at_call 144; with_reducible refine (add_any w0 _ _ _ tx y _ H11.out hol2).mono ?_; rintro e w6 ⟨rfl, hs6⟩; have H12 := hid (hs6.conv (M := outP 70 91 wr.heap.size ((O1 ++ rEdges l (l.take i)) ++ addE fr tx ++ addE tx y) :: sl 3 1 (lineOf E key).1 (lineOf E key).2.length (icells (lineOf E key).2) :: mlX 3 w1.heap.size E key M :: blk wz.heap.size 121 [.int .i64 tx, .int .i64 key, .bool false, .int .i64 fr] :: L) (by rw [HVL.out, HLN.out])); clear hs6))
           all_goals
            go_wp2_with fail
            go_roundw
            case rel => exact ⟨i + 1, by omega, by go_num, HLO, by rw [HST.out, ← List.append_assoc, ← List.append_assoc]; exact S.edge_back H12.out⟩
            case measure => simp [intOf]; omega
          ·have hpy : ws[(k + 1)]? = none := List.getElem?_eq_none (by omega)
           have hnl4 : (ws.length : Int) ≤ (k : Int) + 1 := by omega
           go_wp2_with (go_at_call 144; with_reducible refine (add_any w0 _ _ _ fr tx _ H9.out hol1).mono ?_; rintro e w5 ⟨rfl, hs5⟩; have q0 := (hs5.of_mem (A := blk wz.heap.size 121 [.int .i64 tx, .int .i64 key, .bool false, .int .i64 fr]) (by simp)).blk_cell 0 rfl; have H10 := hid hs5; clear hs5)
           rw [hpy] at HST
           have H12 := hid (H10.out.conv (M := outP 70 91 wr.heap.size ((O1 ++ rEdges l (l.take i)) ++ addE fr tx) :: sl 3 1 (lineOf E key).1 (lineOf E key).2.length (icells (lineOf E key).2) :: mlX 3 w1.heap.size E key M :: blk wz.heap.size 121 [.int .i64 tx, .int .i64 key, .bool false, .int .i64 fr] :: L) (by rw [HVL.out, HLN.out]))
           clear hpy
           go_roundw
           case rel => exact ⟨i + 1, by omega, by go_num, HLO, by rw [HST.out, ← List.append_assoc]; simp only [List.append_nil]; exact S.edge_back H12.out⟩
           case measure => simp [intOf]; omega
       ·--P5
        obtain rfl : i = l.length := by omega
        rw [List.take_length] at hsr hol
        have hall : ∀ o ∈ l, lostRead l o = false := fun o ho => by
         obtain ⟨j, hj⟩ := List.getElem?_of_mem ho
         exact hlo.out j (List.getElem?_eq_some_iff.1 hj).1 o hj
        have hO : ∀ p, p ∈ O1 ++ rEdges l l ↔ Edge l p := fun p =>
         Edge.found HM.out (by rw [← HP1.out]; simpa [List.map_map, Function.comp_def] using HND.out) (fun x => by rw [List.mem_append, ← HME.out]) p
        have hbound : ∀ p ∈ O1 ++ rEdges l l, boundP p := fun p hp => by
         obtain ⟨⟨o1, h1, e1⟩, o2, h2, e2⟩ := ((hO p).1 hp).txs hall
         have b1 := HOK.out o1 h1
         have b2 := HOK.out o2 h2
         have c1 := (HBD.out o1 h1).1
         have c2 := (HBD.out o2 h2).1
         simp only [badOp, decide_eq_false_iff_not] at b1 b2
         unfold boundP
         omega
        have hfi : l.findIdx? (lostRead l) = none := by
         rw [List.findIdx?_eq_none_iff]
         intro o ho; simp [hall o ho]
        have HFI := hid hfi; have HO := hid hO; have HB := hid hbound
        generalize O1 ++ rEdges l l = O at hsr hol HO HB
        obtain ⟨v9, hs9⟩ := hsr.out_elim
        obtain ⟨a9, c9, rfl, _, _, _⟩ := hs9.swap.sl_val
        have q9 := hs9.blk_cell 0 rfl
        have H9 := hid hs9.swap
        clear hsr hs9 hall hO hbound hfi hlo
        go_wp2_with fail
        with_reducible refine (sortW_any w0 _ _ O _ H9.out (by omega) HB.out).mono ?_
        rintro e w5 ⟨rfl, srt, hperm, hsorted, hs5⟩
        have hsl : srt.length = O.length := hperm.length_eq
        have q9 := hs5.swap.blk_cell 0 rfl
        have hEO : EdgesOf l (compactP srt) := edgesOf_compact HO.out hperm hsorted
        have hcl := compactP_le srt
        have hse : srt.length ≤ 40000000 := by omega
        have H10 := hid hs5; have HEO := hid hEO
        clear hs5 hperm hsorted hEO hsl
        go_wp2_with fail
        with_reducible refine (compact_any w0 _ _ srt _ H10.out hse).mono ?_
        rintro e w6 ⟨v6, rfl, hs6⟩
        have H11 := hid hs6
        clear hs6
        go_wp2_with fail
        go_ret2
        refine HP.out _ _ ?_
        rw [HFI.out]
        exact ⟨_, _, rfl, HEO.out, by omega, (H11.out.conv (M := blk wr.heap.size 70 [.slice a9 O.length c9] :: mlM 3 w1.heap.size E M :: sl 91 2 v6 (compactP srt).length (pcells (compactP srt)) :: L) (by simp only [all]; ac_rfl)).tail.tail⟩
 ·have hfin := hs1.alloc #[.int .i64 2, .int .i64 k] 97
  have HF := hid hfin
  rw [hbx]
  have hb0 : 0 ≤ badIx l := by omega
  have HB0 := hid hb0; have HBX := hid hbx
  clear hfin hs1 HC hbx hb0
  go_wp2_with fail
  go_ret2
  unfold EdgesPost
  rw [if_pos HB0.out, HBX.out]
  exact ⟨_, rfl, .ex_intro w1.heap.size (.sep_intro (.pur_intro rfl HF.out))⟩
end Go.Proofs.YtdlkjppppdminaaGreatDoor
/- order.Line, walked. -/
namespace Go.Proofs.YtdlkjppppdminaaGreatDoor
open Go Go.RowKit Go.Sep
def LinePost (w0 : World) (l : List Op1) (L : List HProp) (e : Ending) (w' : World) : Prop :=
 if 0 ≤ badIx l then ∃ v, e = .returned (.tuple #[.slice none 0 0, v]) ∧ S w0 w' (errP 54 97 95 v (.at_ 2 (badIx l)) :: L)
 else match l.findIdx? (lostRead l) with
  | some k => ∃ v, e = .returned (.tuple #[.slice none 0 0, v]) ∧ S w0 w' (errP 54 97 95 v (.at_ 1 k) :: L)
  | none => ∃ es, EdgesOf l es ∧ match lineL es (txsOf l).length (txsOf l) with
   | some out => ∃ v, e = .returned (.tuple #[v, .nilIface]) ∧ out.length ≤ 5000 ∧ S w0 w' (sl 3 1 v out.length (icells out) :: L)
   | none => e = .returned (.tuple #[.slice none 0 0, .iface 54 (.int .i64 11)]) ∧ S w0 w' L
set_option maxRecDepth 40000 in
set_option maxHeartbeats 8000000 in
theorem line_any (w0 w : World) (v : Value) (l : List Op1) (L : List HProp) (hs : S w0 w L) (hr : RdK w0 L v l.length (fcells ocells l)) (hb : l.length ≤ 5000)
  (hbd : ∀ o ∈ l, o.tx ≤ 9223372036854775807 ∧ o.fr ≤ 9223372036854775807) :
  Calls Tryz.prog 69 #[v] w (LinePost w0 l L) := by
 obtain ⟨a, cap, hv, hcap, hcap2, _⟩ := hr w hs
 subst hv
 unfold maxLen at hcap2
 have hcall := edges_any w0 w _ l L hs hr hb hbd
 have HC := hid hcall; have HR := hid hr
 clear hcall hr hs hbd
 go_enter Tryz.func69, Tryz.ntmps69
 go_wp2_with fail
 with_reducible refine HC.out.mono ?_
 intro e w1 h
 clear HC
 unfold EdgesPost at h
 by_cases hbx : 0 ≤ badIx l
 ·rw [if_pos hbx] at h
  obtain ⟨v1, rfl, hs1⟩ := h
  obtain ⟨g, hs2⟩ := hs1.ex_elim
  obtain ⟨rfl, hs3⟩ := hs2.sep_elim.pur_elim
  have H1 := hid hs1; have HB := hid hbx
  clear hs1 hs2 hs3 hbx
  go_wp2_with fail
  go_ret2
  unfold LinePost
  rw [if_pos HB.out]
  exact ⟨_, rfl, H1.out⟩
 ·rw [if_neg hbx] at h
  have hPost : ∀ e w', (match l.findIdx? (lostRead l) with
    | some k => ∃ v, e = Ending.returned (.tuple #[.slice none 0 0, v]) ∧ S w0 w' (errP 54 97 95 v (.at_ 1 k) :: L)
    | none => ∃ es, EdgesOf l es ∧ match lineL es (txsOf l).length (txsOf l) with
     | some out => ∃ v, e = Ending.returned (.tuple #[v, .nilIface]) ∧ out.length ≤ 5000 ∧ S w0 w' (sl 3 1 v out.length (icells out) :: L)
     | none => e = Ending.returned (.tuple #[.slice none 0 0, .iface 54 (.int .i64 11)]) ∧ S w0 w' L) → LinePost w0 l L e w' := by
   intro e w' h
   unfold LinePost
   rw [if_neg hbx]
   exact h
  have hpos : ∀ x ∈ txsOf l, 1 ≤ x := by
   intro x hx
   obtain ⟨o, ho, rfl⟩ := (txsOf_mem l x).1 hx
   rcases badIx_cases l with ⟨_, h2⟩ | ⟨k, h2, _⟩
   ·have := h2 o ho
    simp only [badOp, decide_eq_false_iff_not] at this
    omega
   ·omega
  have HP := hid hPost; have HPOS := hid hpos
  clear hPost hpos hbx
  cases hfi : l.findIdx? (lostRead l) with
  | some k =>
   rw [hfi] at h
   obtain ⟨v1, rfl, hs1⟩ := h
   obtain ⟨g, hs2⟩ := hs1.ex_elim
   obtain ⟨rfl, hs3⟩ := hs2.sep_elim.pur_elim
   have H1 := hid hs1
   have HFI := hid hfi
   clear hs1 hs2 hs3 hfi
   go_wp2_with fail
   go_ret2
   refine HP.out _ _ ?_
   rw [HFI.out]
   exact ⟨_, rfl, H1.out⟩
  | none =>
   rw [hfi] at h
   obtain ⟨v1, es, rfl, hES, hel, hs1⟩ := h
   obtain ⟨a1, c1, rfl, hc1, hc2, _⟩ := hs1.sl_val
   unfold maxLen at hc2
   have hlost : ∀ o ∈ l, lostRead l o = false := by
    rw [List.findIdx?_eq_none_iff] at hfi
    intro o ho; simpa using hfi o ho
   have htx : ∀ e ∈ es, e.1 ∈ txsOf l ∧ e.2 ∈ txsOf l := fun e he => by
    obtain ⟨x, y⟩ := ((hES.2 e).1 he).txs hlost
    exact ⟨(txsOf_mem _ _).2 x, (txsOf_mem _ _).2 y⟩
   have HTX := hid htx; have HES := hid hES; have HFI := hid hfi
   have hs2 := (hs1.made (enc := Sep.encI) (ok := fun _ => True))
   have H2 : Hid (S w0 (w1.alloc (.map #[] 0)) (mp Sep.encI (fun _ => True) w1.heap.size (ienc (tabF (txsOf (l.take 0)) fun _ => 0)) :: sl 91 2 (.slice a1 es.length c1) es.length (pcells es) :: L)) := hid hs2
   have hmm := @run_makeMap Tryz.prog
   clear hs1 hs2 hlost htx hES hfi
   go_wp2_with fail
   clear hmm
   go_loopw [28] (fun iv wr => ∃ i : Nat, i ≤ l.length ∧ iv = .int .i64 i ∧ S w0 wr (mp Sep.encI (fun _ => True) w1.heap.size (ienc (tabF (txsOf (l.take i)) fun _ => 0)) :: sl 91 2 (.slice a1 es.length c1) es.length (pcells es) :: L)) (fun iv _ => l.length - (intOf iv).toNat)
   case atStart => exact ⟨0, Nat.zero_le _, rfl, H2.out⟩
   case round =>
    obtain ⟨i, hi, rfl, hsr⟩ := hrel
    clear H2
    by_cases hlt : i < l.length
    ·have hp : l[i]? = some l[i] := by simp [hlt]
     generalize l[i] = p at hp
     obtain ⟨ob, oo, rfl, hcell⟩ := HR.out.fc ocells_length hsr.tail.tail hp (by omega)
     have htz := tab_zero l i p hp
     obtain ⟨tx, key, wr', fr⟩ := p
     have d0 := hcell _ hsr.tail.tail 0 _ rfl
     have d1 := hcell _ hsr.tail.tail 1 _ rfl
     have d2 := hcell _ hsr.tail.tail 2 _ rfl
     have d3 := hcell _ hsr.tail.tail 3 _ rfl
     simp only [Nat.add_zero] at d0 d1 d2 d3
     have hs3 := hsr.alloc #[.int .i64 tx, .int .i64 key, .bool wr', .int .i64 fr] 121
     have l1 := Tryz.look1 hs3.swap.mapAt tx
     have hg0 : (mget (tabF (txsOf (l.take i)) fun _ => 0) tx).getD 0 = 0 := by rw [tabF_get]; split <;> rfl
     rw [hg0] at l1
     obtain ⟨w2, u2, hs4⟩ := hs3.swap.put Tryz.keyInt Tryz.underlying101 tx trivial (Sep.encI 0)
     rw [ienc_put, htz] at hs4
     simp only [Sep.encI] at u2
     have H4 := hid hs4.swap.tail
     clear hsr hs3 hs4 hcell htz hg0 hp
     go_wp2_with fail
     go_roundw
     case rel => exact ⟨i + 1, by omega, by go_num, H4.out⟩
     case measure => simp [intOf]; omega
    ·--P2
     obtain rfl : i = l.length := by omega
     rw [List.take_length] at hsr
     have hi0 : tabF (txsOf l) (into (es.take 0)) = tabF (txsOf l) fun _ => 0 := tabF_congr fun x _ => by simp [into]
     rw [← hi0] at hsr
     have H3 := hid hsr
     clear hsr hi0
     go_wp2_with fail
     go_loopw [40] (fun iv wr => ∃ i : Nat, i ≤ es.length ∧ iv = .int .i64 i ∧ S w0 wr (mp Sep.encI (fun _ => True) w1.heap.size (ienc (tabF (txsOf l) (into (es.take i)))) :: sl 91 2 (.slice a1 es.length c1) es.length (pcells es) :: L)) (fun iv _ => es.length - (intOf iv).toNat)
     case atStart => exact ⟨0, Nat.zero_le _, rfl, H3.out⟩
     case round =>
      obtain ⟨i, hi, rfl, hsr⟩ := hrel
      clear H3
      by_cases hlt : i < es.length
      ·have hp : es[i]? = some es[i] := by simp [hlt]
       generalize es[i] = p at hp
       obtain ⟨g, og, rfl, _, d0, d1⟩ := hsr.swap.sl_pair hp
       have hmem := (HTX.out p (List.mem_of_getElem? hp)).2
       have hle : 0 ≤ into (es.take i) p.2 ∧ into (es.take i) p.2 ≤ 40000000 := by
        unfold into
        have := List.length_filter_le (fun e : Int × Int => decide (e.2 = p.2)) (es.take i)
        rw [List.length_take] at this
        omega
       have hs3 := hsr.alloc #[.int .i64 p.1, .int .i64 p.2] 91
       have l1 := Tryz.look1 hs3.swap.mapAt p.2
       rw [tabF_get, if_pos hmem] at l1
       simp only [Option.getD_some] at l1
       obtain ⟨w2, u2, hs4⟩ := hs3.swap.put Tryz.keyInt Tryz.underlying101 p.2 trivial (Sep.encI (into (es.take i) p.2 + 1))
       have hput : mput (tabF (txsOf l) (into (es.take i))) p.2 (into (es.take i) p.2 + 1) = tabF (txsOf l) (into (es.take (i + 1))) := by
        rw [tabF_put _ hmem]
        apply tabF_congr
        intro x _
        rw [take_succ_get hp, into_snoc]
        by_cases e : x = p.2
        ·simp [e]
        ·simp [e]
       rw [ienc_put, hput] at hs4
       simp only [Sep.encI] at u2
       generalize into (es.take i) p.2 = c at hle l1 u2 hput
       have hwc : IntKind.i64.wrap (c + 1) = c + 1 := IntWalk.i64_in _ (by omega)
       have H4 := hid hs4.swap.tail
       clear hsr hs3 hs4 hput hmem hp
       go_wp2_with fail
       go_roundw
       case rel => exact ⟨i + 1, by omega, by go_num, H4.out⟩
       case measure => simp [intOf]; omega
      ·--P3
       obtain rfl : i = es.length := by omega
       rw [List.take_length] at hsr
       have hin : tabF (txsOf l) (into es) = tabF (txsOf l) (indeg es (txsOf l)) := tabF_congr fun x _ => (indeg_all (fun e he => (HTX.out e he).1) x).symm
       rw [hin] at hsr
       have hL2 := Left2.start (l := l) (es := es) fun e he => (HTX.out e he).2
       have hts := txsOf_le l
       have HL2 := hid hL2
       have H5 := hid (hsr.sl_nil (e := 3) (size := 1))
       clear hsr hin hL2
       go_wp2_with fail
       go_loopg [11] ((txsOf l).length) (fun n ov wr => ∃ (rem out : List Int), Hid (Left2 es l rem out) ∧ rem.length ≤ n ∧ rem.length + out.length ≤ 5000 ∧
        S w0 wr (sl 3 1 ov out.length (icells out) :: mp Sep.encI (fun _ => True) w1.heap.size (ienc (tabF rem (indeg es rem))) :: sl 91 2 (.slice a1 es.length c1) es.length (pcells es) :: L))
       case atStart => exact ⟨txsOf l, [], HL2, Nat.le_refl _, by simp; omega, H5.out⟩
       case round =>
        obtain ⟨rem, out, hL2, hrn, hro, hsr⟩ := hrel
        obtain ⟨gm, hgm⟩ : ∃ m, m = gk := ⟨_, rfl⟩
        clear H5 HL2
        have hln := run_len_at (P := Tryz.prog) (t := 101) (ty := 3) Tryz.underlying101 hsr.swap.mapAt
        have hll : (ienc (tabF rem (indeg es rem))).length = rem.length := by simp [ienc, tabF]
        rw [hll] at hln
        by_cases hr0 : rem = []
        ·subst hr0
         have hd := hL2.out.done
         obtain ⟨ao, co, rfl, _, _, _⟩ := hsr.sl_val
         have HD := hid hd; have H6 := hid hsr
         clear hd hsr hll
         simp only [List.length_nil] at hln
         go_wp2_with fail
         go_ret2
         refine HP.out _ _ ?_
         rw [HFI.out]
         refine ⟨es, HES.out, ?_⟩
         rw [HD.out]
         exact ⟨_, rfl, by omega, (H6.out.conv (M := mp Sep.encI (fun _ => True) w1.heap.size (ienc (tabF [] (indeg es []))) :: sl 91 2 (.slice a1 es.length c1) es.length (pcells es) :: sl 3 1 (.slice ao out.length co) out.length (icells out) :: L) (by simp only [all]; ac_rfl)).tail.tail⟩
        ·have hrl : 0 < rem.length := List.length_pos_iff.2 hr0
         obtain ⟨ao, co, rfl, hco, hco2, _⟩ := hsr.sl_val
         obtain ⟨w3, ur, hs3⟩ := hsr.swap.range (P := Tryz.prog) Tryz.underlying101
         have hT : ∀ p ∈ tabF rem (indeg es rem), 0 ≤ p.1 := fun p hp => by
          obtain ⟨x, hx, rfl⟩ := List.mem_map.1 hp
          have := HPOS.out x (hL2.out.sub x hx)
          show 0 ≤ x; omega
         have hTl : (tabF rem (indeg es rem)).length = rem.length := by simp [tabF]
         have H6 := hid hs3; have HT := hid hT; have HTL := hid hTl; have HR0 := hid hr0
         clear hsr hs3 hll hT hTl hr0
         go_wp2_with fail
         clear ur hln
         generalize hTe : tabF rem (indeg es rem) = T at H6 HT HTL
         have HTE := hid hTe
         clear hTe
         go_loopg [12] (rem.length) (fun n bv wx => ∃ (best : Int) (dn : List (Int × Int)), bv = .int .i64 best ∧ rem.length ≤ dn.length + n ∧ Hid (Best best dn) ∧
          S w0 wx (ranging Sep.encI (fun _ => True) w1.heap.size wr.heap.size (ienc T) (ienc dn) :: sl 3 1 (.slice ao out.length co) out.length (icells out) :: sl 91 2 (.slice a1 es.length c1) es.length (pcells es) :: L))
         case atStart => exact ⟨-1, [], rfl, by simp, hid Best.start, H6.out⟩
         case round =>
          obtain ⟨best, dn, rfl, hn, hbest, hsr⟩ := hrel
          clear H6
          rcases hsr.next Tryz.keyInt (ty := 0) with ⟨d, w4, hd1, hd2, hr, hs4⟩ | ⟨hall, hr⟩
          ·obtain ⟨p, hp, rfl⟩ := ienc_mem hd1
           have hent := hs4.entry (P := Tryz.prog)
           rw [ienc_snoc] at hs4
           simp only [Sep.encI] at hr hent
           have hlen : (dn ++ [p]).length ≤ rem.length := by
            have h1 := hs4.ranging_sub
            have h2 := nodup_leO h1.1 h1.2.1
            rw [← HTL.out]
            simpa [ienc] using h2
           rw [List.length_append, List.length_singleton] at hlen
           have hsn := hbest.out.snoc p (HT.out p hp)
           obtain ⟨k, c⟩ := p
           simp only at hr hent hsn
           have HS := hid hsn; have H7 := hid hs4
           clear hsr hs4 hd1 hd2 hp hsn hbest
           by_cases hc : c = 0
           ·subst hc
            have hbe : ((0 : Int) == 0) = true := rfl
            by_cases hb0 : best < 0
            ·have HS2 := HS.out
             rw [if_pos ⟨rfl, .inl hb0⟩] at HS2
             have HS3 := hid HS2
             clear HS HS2
             go_wp2_with fail
             go_roundg (gk - 1)
             case measure => omega
             case rel => exact ⟨k, dn ++ [(k, 0)], rfl, by rw [List.length_append, List.length_singleton]; omega, HS3, H7.out⟩
            ·have hb1 : 0 ≤ best := by omega
             by_cases hk : k < best
             ·have HS2 := HS.out
              rw [if_pos ⟨rfl, .inr hk⟩] at HS2
              have HS3 := hid HS2
              clear HS HS2
              go_wp2_with fail
              go_roundg (gk - 1)
              case measure => omega
              case rel => exact ⟨k, dn ++ [(k, 0)], rfl, by rw [List.length_append, List.length_singleton]; omega, HS3, H7.out⟩
             ·have hk1 : best ≤ k := by omega
              have HS2 := HS.out
              rw [if_neg (by omega)] at HS2
              have HS3 := hid HS2
              clear HS HS2
              go_wp2_with fail
              go_roundg (gk - 1)
              case measure => omega
              case rel => exact ⟨best, dn ++ [(k, 0)], rfl, by rw [List.length_append, List.length_singleton]; omega, HS3, H7.out⟩
           ·have hbe : (c == 0) = false := by simpa using hc
            have HS2 := HS.out
            rw [if_neg (fun h => hc h.1)] at HS2
            have HS3 := hid HS2
            clear HS HS2 hc
            go_wp2_with fail
            go_roundg (gk - 1)
            case measure => omega
            case rel => exact ⟨best, dn ++ [(k, c)], rfl, by rw [List.length_append, List.length_singleton]; omega, HS3, H7.out⟩
          ·obtain ⟨hpd, hs4⟩ := hsr.range_over hall
           have hpm := ienc_perm hpd
           rw [← HTE.out] at hpm
           have hba := hbest.out.all hpm
           rw [← HTE.out] at hs4
           clear hsr hall hpd hpm hbest hn
           rcases hba with ⟨rfl, hf⟩ | ⟨hb0, hbm, hbf, hbl⟩
           ·have hst := hL2.out.stuck HR0.out hf
            have HST := hid hst; have H7 := hid hs4.tail.tail.tail
            clear hst hs4 hf
            go_wp2_with fail
            go_ret2
            refine HP.out _ _ ?_
            rw [HFI.out]
            refine ⟨es, HES.out, ?_⟩
            rw [HST.out]
            exact ⟨rfl, H7.out⟩
           ·obtain ⟨hst, hdn⟩ := hL2.out.step hbm hbf hbl
            obtain ⟨w5, u5, hs5⟩ := hs4.del Tryz.keyInt (ty := 0) Tryz.underlying101 best trivial
            rw [ienc_del, tabF_del] at hs5
            simp only [Sep.encI] at u5
            have hlt := filter_ne_length hbm
            have his := fun x => indeg_step hbm x es
            have hib : ∀ x, 0 ≤ indeg es rem x ∧ indeg es rem x ≤ 40000000 := fun x => by have := indeg_nonneg es rem x; omega
            generalize hre : rem.filter (fun x => decide (x ≠ best)) = rem2 at hst hdn hs5 hlt his
            have hz : tabF rem2 (indeg es rem) = tabF rem2 fun x => indeg es rem x - outOf (es.take 0) best x := tabF_congr fun x _ => by simp [outOf]
            rw [hz] at hs5
            have HST := hid hst; have HDN := hid hdn; have HIS := hid his; have HIB := hid hib; have H8 := hid hs5
            clear hst hdn hs4 hs5 hbm hbf hbl hre his hz hib
            go_wp2_with fail
            go_loopw [79] (fun iv wx => ∃ i : Nat, i ≤ es.length ∧ iv = .int .i64 i ∧ S w0 wx (mp Sep.encI (fun _ => True) w1.heap.size (ienc (tabF rem2 fun x => indeg es rem x - outOf (es.take i) best x)) :: sl 3 1 (.slice ao out.length co) out.length (icells out) :: sl 91 2 (.slice a1 es.length c1) es.length (pcells es) :: L)) (fun iv _ => es.length - (intOf iv).toNat)
            case atStart => exact ⟨0, Nat.zero_le _, rfl, H8.out⟩
            case round =>
             rename World => wx
             obtain ⟨i, hi, rfl, hsr⟩ := hrel
             clear H8
             by_cases hlt2 : i < es.length
             ·have hp : es[i]? = some es[i] := by simp [hlt2]
              generalize es[i] = p at hp
              obtain ⟨g, og, rfl, _, d0, d1⟩ := hsr.rot3.sl_pair hp
              have hs3 := hsr.alloc #[.int .i64 p.1, .int .i64 p.2] 91
              have htk : es.take (i + 1) = es.take i ++ [p] := take_succ_get hp
              by_cases hpb : p.1 = best
              ·have hmem := HDN.out p (List.mem_of_getElem? hp) hpb
               have hle := HIB.out p.2
               have hol := outOf_le (es.take i) best p.2
               have htl : (es.take i).length ≤ 40000000 := by rw [List.length_take]; omega
               have l1 := Tryz.look1 hs3.swap.mapAt p.2
               rw [tabF_get, if_pos hmem] at l1
               simp only [Option.getD_some] at l1
               obtain ⟨w6, u6, hs6⟩ := hs3.swap.put Tryz.keyInt Tryz.underlying101 p.2 trivial (Sep.encI (indeg es rem p.2 - outOf (es.take i) best p.2 - 1))
               have hput : mput (tabF rem2 fun x => indeg es rem x - outOf (es.take i) best x) p.2 (indeg es rem p.2 - outOf (es.take i) best p.2 - 1) = tabF rem2 fun x => indeg es rem x - outOf (es.take (i + 1)) best x := by
                rw [tabF_put _ hmem]
                apply tabF_congr
                intro x _
                rw [htk, outOf_snoc]
                by_cases e : x = p.2
                ·simp [e, hpb]; omega
                ·simp [e]
               rw [ienc_put, hput] at hs6
               simp only [Sep.encI] at u6
               have hcc : -40000000 ≤ indeg es rem p.2 - outOf (es.take i) best p.2 ∧ indeg es rem p.2 - outOf (es.take i) best p.2 ≤ 40000000 := by omega
               generalize indeg es rem p.2 - outOf (es.take i) best p.2 = c at l1 u6 hput hcc
               have hwc : IntKind.i64.wrap (c - 1) = c - 1 := IntWalk.i64_in _ (by omega)
               have hbe : (p.1 == best) = true := by simpa using hpb
               have H9 := hid hs6.swap.tail
               clear hsr hs3 hs6 hput hmem hp hle hol htl htk hpb
               go_wp2_with fail
               go_roundw
               case rel => exact ⟨i + 1, by omega, by go_num, H9.out⟩
               case measure => simp [intOf]; omega
              ·have hbe : (p.1 == best) = false := by simpa using hpb
               have hco2 : tabF rem2 (fun x => indeg es rem x - outOf (es.take i) best x) = tabF rem2 fun x => indeg es rem x - outOf (es.take (i + 1)) best x := by
                apply tabF_congr
                intro x _
                rw [htk, outOf_snoc]
                simp [hpb]
               rw [hco2] at hs3
               have H9 := hid hs3.tail
               clear hsr hs3 hp hpb hco2 htk
               go_wp2_with fail
               go_roundw
               case rel => exact ⟨i + 1, by omega, by go_num, H9.out⟩
               case measure => simp [intOf]; omega
             ·--P4
              obtain rfl : i = es.length := by omega
              have hfin : tabF rem2 (fun x => indeg es rem x - outOf (es.take es.length) best x) = tabF rem2 (indeg es rem2) := by
               apply tabF_congr
               intro x _
               rw [List.take_length]; exact HIS.out x
              rw [hfin] at hsr
              have hs5 := hsr.swap.alloc #[.int .i64 best] 3
              have hn5 := news_blk hs5
              have H9 := hid hs5.tail; have HN := hid hn5
              obtain ⟨i0, hi0, hz0, hz1, hz2⟩ := info_parts Tryz.info3
              have hil := icells_length out
              have HL := hid hil
              clear hsr hs5 hn5 hfin hil
              go_wp2_with (at_builtin; refine wpList_append rfl (.tmp 93) (.tmp 95) 47 rfl 3 i0 _ 1 8 Tryz.underlying47 hi0 hz0 hz1 hz2 rfl (by decide) H9.out rfl (some ⟨wx.heap.size, 0, none⟩) 1 1 [.int .i64 best] rfl rfl HN.out (by simp [Value.oneCell']) (by unfold maxLen; omega) (by omega) ?_; intro v1 w5 hs6; have H6 := hid hs6; clear hs6)
              go_roundg (gm - 1)
              case measure => omega
              case rel => exact ⟨rem2, out ++ [best], HST, by omega, by rw [List.length_append, List.length_singleton]; omega, by rw [List.length_append, icells_append]; exact H6.out⟩
end Go.Proofs.YtdlkjppppdminaaGreatDoor
namespace Go.Proofs.YtdlkjppppdminaaGreatDoor
open Go Go.RowKit Go.Sep
def LineOut (l : List Op1) (la : List Int) (f p : Int) : Prop :=
 (0 ≤ badIx l ∧ la = [] ∧ f = 2 ∧ p = badIx l) ∨ (¬ 0 ≤ badIx l ∧ ∃ k : Nat, l.findIdx? (lostRead l) = some k ∧ la = [] ∧ f = 1 ∧ p = k) ∨
 (¬ 0 ≤ badIx l ∧ l.findIdx? (lostRead l) = none ∧ ∃ es, EdgesOf l es ∧ ((lineL es (txsOf l).length (txsOf l) = some la ∧ f = 0 ∧ p = -1) ∨ (lineL es (txsOf l).length (txsOf l) = none ∧ la = [] ∧ f = 11 ∧ p = -1)))
theorem LineOut.one {l : List Op1} {la lb : List Int} {f p g q : Int} (h : LineOut l la f p) (h2 : LineOut l lb g q) : la = lb ∧ f = g ∧ p = q := by
 rcases h with ⟨h1, rfl, rfl, rfl⟩ | ⟨h1, k, h3, rfl, rfl, rfl⟩ | ⟨h1, h3, es, h4, h5⟩
 ·rcases h2 with ⟨_, rfl, rfl, rfl⟩ | ⟨g1, _⟩ | ⟨g1, _⟩
  ·exact ⟨rfl, rfl, rfl⟩
  ·exact absurd h1 g1
  ·exact absurd h1 g1
 ·rcases h2 with ⟨g1, _⟩ | ⟨_, k', g3, rfl, rfl, rfl⟩ | ⟨_, g3, _⟩
  ·exact absurd g1 h1
  ·rw [h3] at g3; cases g3; exact ⟨rfl, rfl, rfl⟩
  ·rw [h3] at g3; cases g3
 ·rcases h2 with ⟨g1, _⟩ | ⟨_, k', g3, _⟩ | ⟨_, _, es', g4, g5⟩
  ·exact absurd g1 h1
  ·rw [h3] at g3; cases g3
  ·obtain rfl := h4.unique g4
   rcases h5 with ⟨h5, rfl, rfl⟩ | ⟨h5, rfl, rfl, rfl⟩ <;> rcases g5 with ⟨g5, rfl, rfl⟩ | ⟨g5, rfl, rfl, rfl⟩ <;> rw [h5] at g5 <;> cases g5
   ·exact ⟨rfl, rfl, rfl⟩
   ·exact ⟨rfl, rfl, rfl⟩
variable {w0 w : World} {v : Value} {l : List Op1} {L : List HProp}
theorem line_outD (hs : S w0 w L) (hr : RdK w0 L v l.length (fcells ocells l)) (hb : l.length ≤ 5000) (hbd : ∀ o ∈ l, o.tx ≤ 9223372036854775807 ∧ o.fr ≤ 9223372036854775807) :
  Calls Tryz.prog 69 #[v] w fun e w' => ∃ u la ev x, e = .returned (.tuple #[u, ev]) ∧ la.length ≤ 5000 ∧ LineOut l la (Err.errno x) (Err.place x) ∧ (Err.errno x = 0 → x = .nil) ∧ S w0 w' (sl 3 1 u la.length (icells la) :: errP 54 97 95 ev x :: L) := by
 refine (line_any w0 w v l L hs hr hb hbd).mono fun e w' h => ?_
 unfold LinePost at h
 split at h
 ·rename_i hx
  obtain ⟨ev, rfl, h⟩ := h
  exact ⟨_, [], ev, _, rfl, by simp, .inl ⟨hx, rfl, rfl, rfl⟩, fun h => by simp [Err.errno] at h, h.sl_nil⟩
 ·rename_i hx
  split at h
  ·rename_i k hk
   obtain ⟨ev, rfl, h⟩ := h
   exact ⟨_, [], ev, _, rfl, by simp, .inr (.inl ⟨hx, k, hk, rfl, rfl, rfl⟩), fun h => by simp [Err.errno] at h, h.sl_nil⟩
  ·rename_i hk
   obtain ⟨es, hE, h⟩ := h
   split at h
   ·rename_i out ho
    obtain ⟨u, rfl, ho9, h⟩ := h
    exact ⟨u, out, .nilIface, .nil, rfl, ho9, .inr (.inr ⟨hx, hk, es, hE, .inl ⟨ho, rfl, rfl⟩⟩), fun _ => rfl, S.swap (S.pur_intro rfl h)⟩
   ·rename_i ho
    obtain ⟨rfl, h⟩ := h
    exact ⟨_, [], _, .no 11, rfl, by simp, .inr (.inr ⟨hx, hk, es, hE, .inr ⟨ho, rfl, rfl, rfl⟩⟩), fun h => by simp [Err.errno] at h, S.sl_nil (S.pur_intro rfl h)⟩
end Go.Proofs.YtdlkjppppdminaaGreatDoor
