/- slices.Compact at pairs. -/
import Derived.Test.YthdiphfbjlooaaaDoorOrdP
import Derived.Test.YthdiphfbjlooaaaDoorOrdLaw2
import Derived.Deep.MidRow
namespace Go.Proofs.YthdiphfbjlooaaaDoor
open Go Go.RowKit Go.Sep

theorem Tryd.eqlW (p q : Int × Int) (w : World) : (binOp .eql 31 (.agg #[.int .i64 p.1, .int .i64 p.2]) (.agg #[.int .i64 q.1, .int .i64 q.2])).run Tryd.prog w = .ok (.bool (decide (p = q))) w := by
  go_simp
  obtain ⟨a, b⟩ := p
  obtain ⟨c, d⟩ := q
  by_cases h1 : a = c <;> by_cases h2 : b = d <;> simp [h1, h2]
theorem Tryd.neqW (p q : Int × Int) (w : World) : (binOp .neq 31 (.agg #[.int .i64 p.1, .int .i64 p.2]) (.agg #[.int .i64 q.1, .int .i64 q.2])).run Tryd.prog w = .ok (.bool (!decide (p = q))) w := by
  go_simp
  obtain ⟨a, b⟩ := p
  obtain ⟨c, d⟩ := q
  by_cases h1 : a = c <;> by_cases h2 : b = d <;> simp [h1, h2]

theorem Tryd.zero_W (w : World) : (zeroValue 31).run Tryd.prog w = .ok (.agg #[.int .i64 0, .int .i64 0]) w := Tryd.zeroValue31 w
theorem run_clear_sliceK {P : Program} (w : World) (t e ty : TypeId) (z : Value) (ht : P.underlying t = some (.slice e)) (hv : ∀ w, (zeroValue e).run P w = .ok z w) (h1 : ∀ v ∈ z.cells, v.oneCell' = true) (b o n c : Nat) (hn : 0 < n)
    (hc : ∀ j, j < n * z.cells.size → (w.cell? ⟨b, o + j, none⟩).isSome = true) (hf : ∀ j, j < n * z.cells.size → w.frozen? ⟨b, o + j, none⟩ = false) :
    (Builtin.clear_ #[t] ty #[.slice (some ⟨b, o, none⟩) n c]).run P w = .ok (.tuple #[]) (w.setCells b o (Builtin.zeroCells z.cells n).toList) := by
  have hl : (Builtin.zeroCells z.cells n).toList.length = n * z.cells.size := by simp [Builtin.zeroCells]
  have hst := run_storeCells_cells (P := P) b o (Builtin.zeroCells z.cells n).toList 0 w (by rw [hl]; simpa using hc) (by rw [hl]; simpa using hf) (by
    intro v hv'
    simp only [Builtin.zeroCells, Array.toList_map, List.mem_map] at hv'
    obtain ⟨i, hi, rfl⟩ := hv'
    have hi' : i < n * z.cells.size := by simpa using hi
    have hs : 0 < z.cells.size := by
      rcases Nat.eq_zero_or_pos z.cells.size with h | h
      · rw [h, Nat.mul_zero] at hi'; omega
      · exact h
    rw [getElem!_pos z.cells (i % z.cells.size) (Nat.mod_lt _ hs)]
    exact h1 _ (Array.getElem_mem _))
  simp only [Nat.add_zero] at hst
  obtain ⟨m, rfl⟩ : ∃ m, n = m + 1 := ⟨n - 1, by omega⟩
  simp [Builtin.clear_, run_underlying ht, hv, hst]
theorem pcells_take (l : List (Int × Int)) : ∀ k : Nat, (pcells l).take (k * 2) = pcells (l.take k) := by
  induction l with
  | nil => intro k; simp [pcells]
  | cons x l ih =>
    intro k
    cases k with
    | zero => simp [pcells]
    | succ k =>
      have := ih k
      rw [show (k + 1) * 2 = k * 2 + 2 by omega]
      simp only [pcells, List.flatMap_cons, List.take_succ_cons] at this ⊢
      simp [this]
theorem pcells_set2 : ∀ (l : List (Int × Int)) (k : Nat) (p : Int × Int), k < l.length → pcells (l.set k p) = (pcells l).take (k * 2) ++ [Value.int .i64 p.1, .int .i64 p.2] ++ (pcells l).drop (k * 2 + 2)
  | x :: l, 0, p, _ => by simp [pcells]
  | x :: l, k + 1, p, h => by
    have ih := pcells_set2 l k p (by simpa using h)
    rw [show (k + 1) * 2 = k * 2 + 2 by omega]
    simp only [List.set_cons_succ, pcells, List.flatMap_cons] at ih ⊢
    rw [ih]
    simp

set_option maxRecDepth 40000 in
set_option maxHeartbeats 8000000 in
theorem compact_any (w0 w : World) (v : Value) (l : List (Int × Int)) (L : List HProp) (hs : S w0 w (sl 31 2 v l.length (pcells l) :: L)) (hb : l.length ≤ 1000000) :
    Calls Tryd.prog 62 #[v] w fun e w' => ∃ v', e = .returned v' ∧ S w0 w' (sl 31 2 v' (compactP l).length (pcells (compactP l)) :: L) := by
  obtain ⟨a, cap, rfl, hcap, hcap2, _⟩ := hs.sl_val
  unfold maxLen at hcap2
  have H := hid hs
  clear hs
  by_cases h2 : l.length < 2
  · have hc : compactP l = l := by
      match l, h2 with
      | [], _ => rfl
      | [x], _ => rfl
    rw [hc]
    clear hc
    go_enter Tryd.func62, Tryd.ntmps62
    go_wp2_with fail
    go_ret
    exact ⟨_, rfl, H.out⟩
  · obtain ⟨g, og, rfl, hg, _⟩ := H.out.sl_pair (show l[0]? = some l[0] by simp)
    go_enter Tryd.func62, Tryd.ntmps62
    go_wp2_with fail
    go_loopw [3] (fun kv wr => ∃ k : Nat, 1 ≤ k ∧ k ≤ l.length ∧ kv = .int .i64 k ∧ Hid (compactP (l.take k) = l.take k) ∧ S w0 wr (sl 31 2 (.slice (some ⟨g, og, none⟩) l.length cap) l.length (pcells l) :: L)) (fun kv _ => l.length - (intOf kv).toNat)
    case atStart => exact ⟨1, by omega, by omega, rfl, hid (by obtain ⟨x, l', rfl⟩ := List.exists_cons_of_ne_nil (show l ≠ [] by rintro rfl; simp at h2); rfl), H.out⟩
    case round =>
      obtain ⟨k, hk1, hk, rfl, hck, hsr⟩ := hrel
      clear H
      by_cases hkl : k < l.length
      · obtain ⟨j, rfl⟩ : ∃ j, k = j + 1 := ⟨k - 1, by omega⟩
        have hp : l[j + 1]? = some l[j + 1] := by simp [hkl]
        have hq : l[j]? = some l[j] := by simp
        have htk := compactP_take hq hp
        generalize l[j + 1] = p at hp htk
        generalize l[j] = q at hq htk
        obtain ⟨gx, ox, hg0, _, d0, d1⟩ := hsr.drew.sl_pair (a := some ⟨g, og, none⟩) hp
        obtain ⟨rfl, rfl⟩ : g = gx ∧ og = ox := by simpa using hg0
        obtain ⟨gx, ox, hg0, _, d2, d3⟩ := hsr.drew.sl_pair (a := some ⟨g, og, none⟩) hq
        obtain ⟨rfl, rfl⟩ : g = gx ∧ og = ox := by simpa using hg0
        have he := fun w => Tryd.eqlW p q w
        have hj0 : (j : Int) + 1 - 1 = j := by omega
        have H := hid hsr.drew
        clear hsr
        by_cases hpq : p = q
        · rw [decide_eq_true hpq] at he
          rw [if_pos hpq, hck.out] at htk
          have HK := hid htk
          clear htk hp hq hg0 hck hpq
          go_wp2_with fail
          go_region
          go_wp2_with fail
          clear d0 d1 d2 d3 he
          go_loopw [3, 5] (fun kv rv wx => ∃ (k r : Nat) (cur : List (Int × Int)), kv = .int .i64 k ∧ rv = .int .i64 r ∧ 1 ≤ r ∧ j + 1 ≤ k ∧ k < j + 1 + r ∧ j + 1 + r ≤ l.length ∧ cur.length = l.length ∧ Hid (cur.take k = compactP (l.take (j + 1 + r)) ∧ cur.drop (j + r) = l.drop (j + r)) ∧
            S w0 wx (sl 31 2 (.slice (some ⟨g, og, none⟩) l.length cap) l.length (pcells cur) :: L)) (fun _ rv _ => l.length - (intOf rv).toNat)
          case atStart => exact ⟨j + 1, 1, l, by go_num, rfl, by omega, by omega, by omega, by omega, rfl, hid ⟨HK.out.symm, rfl⟩, H.out⟩
          case round =>
            obtain ⟨k, r, cur, rfl, rfl, hr1, hjk, hkr, hr, hcl, hcur, hsr⟩ := hrel
            rename World => wx
            clear H
            by_cases hrl : j + 1 + r < l.length
            · obtain ⟨r, rfl⟩ : ∃ r', r = r' + 1 := ⟨r - 1, by omega⟩
              have hp : l[j + 1 + r + 1]? = some l[j + 1 + r + 1] := by rw [List.getElem?_eq_getElem]
              have hq : l[j + 1 + r]? = some l[j + 1 + r] := by rw [List.getElem?_eq_getElem]
              have htk := compactP_take hq hp
              generalize l[j + 1 + r + 1] = p at hp htk
              generalize l[j + 1 + r] = q at hq htk
              obtain ⟨hc1, hc2⟩ := hcur.out
              have hcp : cur[j + 1 + r + 1]? = some p := by
                have := congrArg (fun x => x[1]?) hc2
                rw [← hp]
                simpa [Nat.add_assoc, Nat.add_comm, Nat.add_left_comm] using this
              have hcq : cur[j + 1 + r]? = some q := by
                have := congrArg (fun x => x[0]?) hc2
                rw [← hq]
                simpa [Nat.add_assoc, Nat.add_comm, Nat.add_left_comm] using this
              have hcp' := hcp
              obtain ⟨gx, ox, hg0, _, d0, d1⟩ := hsr.drew.sl_pair (a := some ⟨g, og, none⟩) hcp
              obtain ⟨rfl, rfl⟩ : g = gx ∧ og = ox := by simpa using hg0
              obtain ⟨gx, ox, hg0, _, d2, d3⟩ := hsr.drew.sl_pair (a := some ⟨g, og, none⟩) hcq
              obtain ⟨rfl, rfl⟩ : g = gx ∧ og = ox := by simpa using hg0
              have e1 : og + (j + 1 + r + 1) * 2 = og + (j + 1) * 2 + (r + 1) * 2 := by omega
              have e2 : og + (j + 1 + r) * 2 = og + (j + 1) * 2 + r * 2 := by omega
              rw [e1] at d0 d1
              rw [e2] at d2 d3
              have he := fun w => Tryd.neqW p q w
              have hj0 : (r : Int) + 1 - 1 = r := by omega
              have hdrop : cur.drop (j + (r + 1 + 1)) = l.drop (j + (r + 1 + 1)) := by
                have := congrArg (fun x => x.drop 1) hc2
                simpa [List.drop_drop, Nat.add_assoc] using this
              have H := hid hsr.drew
              clear hsr hc2 hcur hg0 e1 e2
              by_cases hpq : p = q
              · rw [decide_eq_true hpq] at he
                rw [if_pos hpq] at htk
                have HK : Hid (cur.take k = compactP (l.take (j + 1 + (r + 1 + 1))) ∧ cur.drop (j + (r + 1 + 1)) = l.drop (j + (r + 1 + 1))) := hid ⟨by rw [hc1]; exact htk.symm, hdrop⟩
                clear htk hp hq hpq hc1 hdrop hcp hcq hcp'
                go_wp2_with fail
                go_region
                go_wp2_with fail
                go_roundw
                case rel => exact ⟨k, r + 1 + 1, cur, rfl, by go_num, by omega, by omega, by omega, by omega, hcl, HK, H.out⟩
                case measure => simp [intOf]; omega
              · rw [decide_eq_false hpq] at he
                rw [if_neg hpq] at htk
                have hkc : k * 2 + 1 < (pcells cur).length := by rw [pcells_length]; omega
                obtain ⟨gy, oy, _, hg1, _, _, _, _, hd0, hf0⟩ := H.out.sl_some (by omega)
                obtain ⟨⟨rfl, rfl⟩, -⟩ : (g = gy ∧ og = oy) ∧ _ := by simpa using hg1
                have hth : ∀ u : Nat, u < 2 → ((wx.drew).cell? ⟨g, og + k * 2 + u, none⟩).isSome = true ∧ (wx.drew).frozen? ⟨g, og + k * 2 + u, none⟩ = false := fun u hu =>
                  ⟨by rw [Nat.add_assoc, hd0 (k * 2 + u) _ (List.getElem?_eq_getElem (by omega))]; rfl, hf0 _⟩
                have hst := run_storeAt_mid (P := Tryd.prog) wx.drew g (og + k * 2) 31 #[.int .i64 p.1, .int .i64 p.2] hth (by kernel_rfl) (by simp [Value.oneCell'])
                have hset := H.out.sl_setCells [.int .i64 p.1, .int .i64 p.2] (k * 2) (by simp only [List.length_cons, List.length_nil]; omega)
                have hfin : (cur.set k p).take (k + 1) = compactP (l.take (j + 1 + (r + 1 + 1))) ∧ (cur.set k p).drop (j + (r + 1 + 1)) = l.drop (j + (r + 1 + 1)) := by
                  refine ⟨?_, ?_⟩
                  · refine Eq.trans ?_ htk.symm
                    rw [take_succ_get (show (cur.set k p)[k]? = some p from List.getElem?_set_self (by omega)), List.take_set_of_le (by omega), hc1]
                    rfl
                  · rw [List.drop_set_of_lt (by omega)]; exact hdrop
                have hpc : (pcells cur).take (k * 2) ++ [Value.int .i64 p.1, .int .i64 p.2] ++ (pcells cur).drop (k * 2 + 2) = pcells (cur.set k p) := by
                  rw [pcells_set2 cur k p (by omega)]
                simp only [List.length_cons, List.length_nil, Nat.zero_add] at hset
                rw [hpc] at hset
                have HK := hid hfin; have HS := hid hset
                have HL : Hid ((cur.set k p).length = l.length) := hid (by rw [List.length_set]; exact hcl)
                clear hfin hset hpc htk hc1 hdrop hcl hcp' hkc hst
                clear hp hq hpq hcp hcq hd0 hf0 hg1
                go_wp2_with fail
                go_region
                go_wp2_with (refine wpList_store_mid rfl 31 (.tmp 51) (.tmp 50) rfl g (og + k * 2) #[.int .i64 p.1, .int .i64 p.2] rfl rfl hth (by kernel_rfl) (by simp [Value.oneCell']) ?_)
                go_roundw
                case rel => exact ⟨k + 1, r + 1 + 1, cur.set k p, by go_num, by go_num, by omega, by omega, by omega, by omega, HL.out, HK, HS.out⟩
                case measure => simp [intOf]; omega
            · have hjr : j + 1 + r = l.length := by omega
              obtain ⟨hc1, _⟩ := hcur.out
              rw [hjr, List.take_length] at hc1
              have hkl2 : k ≤ l.length := by omega
              have hpl : (pcells cur).length = l.length * 2 := by rw [pcells_length, hcl]
              have hzl : (Builtin.zeroCells (Value.agg #[.int .i64 0, .int .i64 0]).cells (l.length - k)).toList.length = (l.length - k) * 2 := by simp [Builtin.zeroCells, Value.cells]
              have hclr : ∀ ty, (Builtin.clear_ #[29] ty #[.slice (some ⟨g, og + k * 2, none⟩) (l.length - k) (cap - k)]).run Tryd.prog wx = .ok (.tuple #[]) (wx.setCells g (og + k * 2) (Builtin.zeroCells (Value.agg #[.int .i64 0, .int .i64 0]).cells (l.length - k)).toList) := by
                intro ty
                obtain ⟨gy, oy, _, hg1, _, _, _, _, hd0, hf0⟩ := hsr.sl_some (by omega)
                obtain ⟨⟨rfl, rfl⟩, -⟩ : (g = gy ∧ og = oy) ∧ _ := by simpa using hg1
                refine run_clear_sliceK wx _ _ ty _ Tryd.underlying29 Tryd.zero_W (by simp [Value.cells, Value.oneCell']) g (og + k * 2) _ _ (by omega) (fun j hj => ?_) (fun j hj => hf0 _)
                simp only [Value.cells, List.size_toArray, List.length_cons, List.length_nil, Nat.zero_add] at hj
                rw [Nat.add_assoc, hd0 (k * 2 + j) _ (List.getElem?_eq_getElem (by omega))]
                rfl
              generalize (Builtin.zeroCells (Value.agg #[.int .i64 0, .int .i64 0]).cells (l.length - k)).toList = zs at hzl hclr
              have hfin : S w0 (wx.setCells g (og + k * 2) zs) (sl 31 2 (.slice (some ⟨g, og, none⟩) k cap) k (pcells (compactP l)) :: L) := by
                have h1 := hsr.sl_setCells zs (k * 2) (by omega)
                have h2 := h1.sl_take k hkl2
                rw [← hc1]
                rw [List.append_assoc, List.take_left' (by rw [List.length_take]; omega)] at h2
                rw [← pcells_take]; exact h2
              have hsl : (compactP l).length = k := by rw [← hc1, List.length_take]; omega
              have HF := hid hfin; have HS2 := hid hsl
              clear hfin hsl hsr hc1 hcur hcl hpl hzl
              go_wp2_with fail
              go_ret
              exact ⟨_, rfl, by rw [HS2.out]; exact HF.out⟩
        · rw [decide_eq_false hpq] at he
          rw [if_neg hpq] at htk
          have hck2 : compactP (l.take (j + 1 + 1)) = l.take (j + 1 + 1) := by
            rw [htk, hck.out, take_succ_get hp]
          have HK := hid hck2
          clear htk hp hq hg0 hck2 hck hpq
          go_wp2_with fail
          go_region
          go_wp2_with fail
          go_roundw
          case rel => exact ⟨j + 1 + 1, by omega, by omega, by go_num, HK, H.out⟩
          case measure => simp [intOf]; omega
      · have hkk : k = l.length := by omega
        subst hkk
        have h3 := hck.out
        rw [List.take_length] at h3
        have HF := hid hsr; have H3 := hid h3
        clear hsr hck h3
        go_wp2_with fail
        go_ret
        exact ⟨_, rfl, by rw [H3.out]; exact HF.out⟩
end Go.Proofs.YthdiphfbjlooaaaDoor
