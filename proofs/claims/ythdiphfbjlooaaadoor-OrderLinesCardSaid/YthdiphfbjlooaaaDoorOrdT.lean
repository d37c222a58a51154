/- The reference's edges, walked. -/
import Derived.Test.YthdiphfbjlooaaaDoorOrdG
import Derived.Test.YthdiphfbjlooaaaDoorOrdS
import Derived.Test.YthdiphfbjlooaaaDoorPlace
import Derived.Test.YthdiphfbjlooaaaDoorOrdE
import Derived.Test.YthdiphfbjlooaaaDoorKeyP
import Derived.Deep.LoopGhost
namespace Go.Proofs.YthdiphfbjlooaaaDoor
open Go Go.RowKit Go.Sep

theorem badIx_eq {l : List Op1} {i : Nat} {o : Op1} (h : ∀ o ∈ l.take i, badOp o = false) (hp : l[i]? = some o) (hb : badOp o = true) : badIx l = i := by
  have hlt := (List.getElem?_eq_some_iff.1 hp).1
  rcases badIx_cases l with ⟨_, h2⟩ | ⟨k, h1, hk, o', h2, h3, h4⟩
  · rw [h2 o (List.mem_of_getElem? hp)] at hb; cases hb
  · rw [h1]
    rcases Nat.lt_trichotomy k i with g | g | g
    · have : o' ∈ l.take i := List.mem_of_getElem? (by rw [List.getElem?_take_of_lt g]; exact h2)
      rw [h o' this] at h3; cases h3
    · rw [g]
    · rw [h4 i g o hp] at hb; cases hb
theorem badIx_none {l : List Op1} (h : ∀ o ∈ l, badOp o = false) : ¬ 0 ≤ badIx l := by
  rcases badIx_cases l with ⟨h1, _⟩ | ⟨k, _, _, o, h2, h3, _⟩
  · omega
  · rw [h o (List.mem_of_getElem? h2)] at h3; cases h3
def REdgesPost (w0 : World) (l : List Op1) (L : List HProp) (e : Ending) (w' : World) : Prop :=
  if 0 ≤ badIx l then e = .returned (.tuple #[.slice none 0 0, .agg #[.int .i64 2, .int .i64 (badIx l)]]) ∧ S w0 w' L
  else match l.findIdx? (lostRead l) with
    | some k => e = .returned (.tuple #[.slice none 0 0, .agg #[.int .i64 1, .int .i64 k]]) ∧ S w0 w' L
    | none => ∃ v es, e = .returned (.tuple #[v, .agg #[.int .i64 0, .int .i64 (-1)]]) ∧ EdgesOf l es ∧ S w0 w' (sl 31 2 v es.length (pcells es) :: L)
/-- What the first 'i' have put into the set. -/
def SetK (l : List Op1) (i : Nat) (D : List ((Int × Int) × Value)) : Prop := HasK D fun p => ∃ o ∈ l.take i, RefE l o p
theorem SetK.start {l : List Op1} : SetK l 0 [] := HasK.start.congr fun p => by simp
theorem RdK.more {w0 : World} {L : List HProp} {v : Value} {n : Nat} {xs : List Value} (h : RdK w0 L v n xs) (A : HProp) : RdK w0 (A :: L) v n xs := fun w hs => h w hs.tail

theorem setK_succ {l : List Op1} {i : Nat} {o : Op1} {D : List ((Int × Int) × Value)} (hp : l[i]? = some o) (h : HasK D fun p => (∃ o ∈ l.take i, RefE l o p) ∨ RefE l o p) : SetK l (i + 1) D :=
  h.congr fun p => by
    rw [take_succ_get hp]
    simp only [List.mem_append, List.mem_singleton]
    constructor
    · rintro ⟨o', h1 | rfl, h2⟩
      · exact .inl ⟨o', h1, h2⟩
      · exact .inr h2
    · rintro (⟨o', h1, h2⟩ | h2)
      · exact ⟨o', .inl h1, h2⟩
      · exact ⟨o, .inr rfl, h2⟩
theorem nextOf_at {w : List Int} {f : Int} {m : Nat} (hm : w[m]? = some f) (hno : ∀ j < m, w[j]? ≠ some f) : nextOf w f = w[m + 1]? := by
  obtain ⟨hl, hm'⟩ := List.getElem?_eq_some_iff.1 hm
  have h := Lib.idxFrom_hit f w m 0 hl (by rw [List.getD_eq_getElem?_getD, hm]; rfl) (fun j hj => by
    intro e
    rw [List.getD_eq_getElem?_getD] at e
    have : w[j]? = some f := by rw [List.getElem?_eq_getElem (by omega)] at e ⊢; simpa using e
    exact hno j hj this)
  unfold nextOf Lib.idxOf
  rw [h]; congr 1; omega
/-- What the set's entries that were met give: those of two. -/
def outQ (dn : List ((Int × Int) × Value)) : List (Int × Int) := (dn.map (·.1)).filter fun p => decide (p.1 ≠ p.2)
theorem outQ_le (dn : List ((Int × Int) × Value)) : (outQ dn).length ≤ dn.length := by
  unfold outQ
  exact Nat.le_trans (List.length_filter_le _ _) (by simp)
theorem outQ_snoc (dn : List ((Int × Int) × Value)) (d : (Int × Int) × Value) : outQ (dn ++ [d]) = if d.1.1 ≠ d.1.2 then outQ dn ++ [d.1] else outQ dn := by
  unfold outQ
  rw [List.map_append, List.filter_append]
  by_cases h : d.1.1 = d.1.2 <;> simp [h]
theorem nextOf_zero {w : List Int} (h : (0 : Int) ∉ w) : nextOf w 0 = w[0]? := by
  rcases idxOf_cases w 0 with ⟨h1, _⟩ | ⟨k, _, _, h2⟩
  · unfold nextOf; rw [h1]; rfl
  · exact absurd h2 h

set_option maxRecDepth 100000 in
set_option maxHeartbeats 16000000 in
theorem redges_any (w0 w : World) (v : Value) (l : List Op1) (L : List HProp) (hs : S w0 w L) (hr : RdK w0 L v l.length (fcells ocells l)) (hb : l.length ≤ 900) :
    Calls Tryd.prog 45 #[v] w (REdgesPost w0 l L) := by
  obtain ⟨a, cap, rfl, hcap, hcap2, _⟩ := hr w hs
  unfold maxLen at hcap2
  have hs1 := (hs.alloc #[.slice a l.length cap] 59).alloc #[.int .i64 0, .int .i64 0] 79
  rw [World.size_alloc] at hs1
  have H1 := hid hs1; have HR := hid hr
  clear hs hr hs1
  go_enter Tryd.func45, Tryd.ntmps45
  go_wp2_with fail
  go_loopw [17] (fun c wr => ∃ i : Nat, i ≤ l.length ∧ c = .int .i64 i ∧ Hid (∀ o ∈ l.take i, badOp o = false) ∧ S w0 wr (blk (w.heap.size + 1) 79 [.int .i64 0, .int .i64 0] :: blk w.heap.size 59 [.slice a l.length cap] :: L)) (fun c _ => l.length - (intOf c).toNat)
  case atStart => exact ⟨0, Nat.zero_le _, rfl, hid (by simp), H1.out⟩
  case round =>
    rename World => wr
    obtain ⟨i, hi, rfl, hgood, hsr⟩ := hrel
    clear H1
    by_cases hlt : i < l.length
    · have hp : l[i]? = some l[i] := by simp [hlt]
      generalize l[i] = p at hp
      obtain ⟨ob, oo, rfl, hcell⟩ := HR.out.fc ocells_length hsr.tail.tail hp (by omega)
      have hbi : badOp p = true → badIx l = i := badIx_eq hgood.out hp
      have hgo : badOp p = false → ∀ o ∈ l.take (i + 1), badOp o = false := fun h o ho => by
        rw [take_succ_get hp] at ho
        rcases List.mem_append.1 ho with g | g
        · exact hgood.out o g
        · rw [List.mem_singleton] at g; rw [g]; exact h
      obtain ⟨tx, ky, wr', fr⟩ := p
      have d0 := hcell _ hsr.tail.tail 0 _ rfl
      have d1 := hcell _ hsr.tail.tail 1 _ rfl
      have d2 := hcell _ hsr.tail.tail 2 _ rfl
      have d3 := hcell _ hsr.tail.tail 3 _ rfl
      simp only [Nat.add_zero] at d0 d1 d2 d3
      have hs3 := (hsr.alloc #[.int .i64 tx, .int .i64 ky, .bool wr', .int .i64 fr] 65).tail
      have e0 := hs3.blk_cell 0 rfl
      have e1 := hs3.blk_cell 1 rfl
      have f0 := hs3.blk_free 0
      have f1 := hs3.blk_free 1
      have hse := (hs3.blk_set 0 (by simp) (.int .i64 2)).blk_set 1 (by simp) (.int .i64 i)
      have r0 := hse.blk_cell 0 rfl
      have r1 := hse.blk_cell 1 rfl
      have H3 := hid hs3; have HSE := hid hse; have HBI := hid hbi; have HGO := hid hgo
      clear hcell hsr hs3 hse hbi hgo hgood hp
      by_cases h1 : tx < 1
      · have hx : badIx l = i := HBI.out (by simp [badOp, h1])
        have HX := hid hx
        clear hx HGO HBI
        go_wp2_with fail
        exact bodyPost_ret (v := .tuple #[.slice none 0 0, .agg #[.int .i64 2, .int .i64 i]]) (by simp [results, Tryd.results45, go_sem, r0, r1]) rfl (by unfold REdgesPost; rw [HX.out, if_pos (by omega)]; exact ⟨rfl, HSE.out.tail.tail⟩)
      · by_cases h2 : fr < 0
        · have hx : badIx l = i := HBI.out (by simp [badOp, h2])
          have HX := hid hx
          clear hx HGO HBI
          go_wp2_with fail
          exact bodyPost_ret (v := .tuple #[.slice none 0 0, .agg #[.int .i64 2, .int .i64 i]]) (by simp [results, Tryd.results45, go_sem, r0, r1]) rfl (by unfold REdgesPost; rw [HX.out, if_pos (by omega)]; exact ⟨rfl, HSE.out.tail.tail⟩)
        · by_cases h3 : 0 ≤ ky ∧ ky ≤ 9
          · have hg : badOp ⟨tx, ky, wr', fr⟩ = false := by simp only [badOp, decide_eq_false_iff_not]; omega
            have HG := hid (HGO.out hg)
            have hb3 : decide (0 ≤ ky ∧ ky ≤ 9) = true := decide_eq_true h3
            clear hg HGO HBI h3
            go_wp2_with (go_at_call 65; with_reducible refine (in_any _ _ _ _).mono ?_; rw [hb3]; rintro e w' ⟨rfl, rfl⟩)
            go_roundw
            case rel => exact ⟨i + 1, by omega, by go_num, HG, H3.out⟩
            case measure => simp [intOf]; omega
          · have hx : badIx l = i := HBI.out (by simp only [badOp, decide_eq_true_eq]; omega)
            have HX := hid hx
            have hb3 : decide (0 ≤ ky ∧ ky ≤ 9) = false := decide_eq_false h3
            clear hx HGO HBI h3
            go_wp2_with (go_at_call 65; with_reducible refine (in_any _ _ _ _).mono ?_; rw [hb3]; rintro e w' ⟨rfl, rfl⟩)
            exact bodyPost_ret (v := .tuple #[.slice none 0 0, .agg #[.int .i64 2, .int .i64 i]]) (by simp [results, Tryd.results45, go_sem, r0, r1]) rfl (by unfold REdgesPost; rw [HX.out, if_pos (by omega)]; exact ⟨rfl, HSE.out.tail.tail⟩)
    · --P2
      obtain rfl : i = l.length := by omega
      have hgood := hgood.out
      rw [List.take_length] at hgood
      have hpo : ∀ e w', (match l.findIdx? (lostRead l) with
          | some k => e = Ending.returned (.tuple #[.slice none 0 0, .agg #[.int .i64 1, .int .i64 k]]) ∧ S w0 w' L
          | none => ∃ v es, e = Ending.returned (.tuple #[v, .agg #[.int .i64 0, .int .i64 (-1)]]) ∧ EdgesOf l es ∧ S w0 w' (sl 31 2 v es.length (pcells es) :: L)) → REdgesPost w0 l L e w' := fun e w' h => by
        unfold REdgesPost; rw [if_neg (badIx_none hgood)]; exact h
      have hsm := hsr.made (enc := Sep.encP) (ok := fun _ => True)
      have HP := hid hpo; have HB := hid hgood; have HM := hid hsm
      have hmm := @run_makeMap Tryd.prog
      have k0 := hsm.tail.tail.blk_cell 0 rfl
      clear hpo hgood hsr hsm
      go_wp2_with fail
      clear hmm k0
      go_loopw [43] (fun c wx => ∃ (i : Nat) (D : List ((Int × Int) × Value)), i ≤ l.length ∧ c = .int .i64 i ∧ D.length ≤ i * 902 ∧ Hid (SetK l i D) ∧ Hid (∀ j < i, ∀ o, l[j]? = some o → lostRead l o = false) ∧ S w0 wx (mp Sep.encP (fun _ => True) wr.heap.size D :: blk (w.heap.size + 1) 79 [.int .i64 0, .int .i64 0] :: blk w.heap.size 59 [.slice a l.length cap] :: L)) (fun c _ => l.length - (intOf c).toNat)
      case atStart => exact ⟨0, [], Nat.zero_le _, rfl, Nat.zero_le _, hid SetK.start, hid (by omega), HM.out⟩
      case round =>
        rename World => wx
        obtain ⟨i, D, hi, rfl, hDl, hset, hlo, hsr⟩ := hrel
        clear HM
        by_cases hlt : i < l.length
        · have hp : l[i]? = some l[i] := by simp [hlt]
          generalize l[i] = p at hp
          have hsu := fun D' => setK_succ (D := D') hp
          have hstep : lostRead l p = false → ∀ j < i + 1, ∀ o, l[j]? = some o → lostRead l o = false := fun h j hj o ho => by
            rcases Nat.lt_or_ge j i with h1 | h1
            · exact hlo.out j h1 o ho
            · obtain rfl : j = i := by omega
              rw [hp] at ho; cases ho; exact h
          have hfind : lostRead l p = true → l.findIdx? (lostRead l) = some i := fun h => by
            rw [List.findIdx?_eq_some_iff_getElem]
            refine ⟨hlt, ?_, fun j hj => ?_⟩
            · obtain ⟨_, h2⟩ := List.getElem?_eq_some_iff.1 hp
              rw [h2]; exact h
            · have := hlo.out j hj l[j] (by rw [List.getElem?_eq_getElem])
              simp [this]
          have hbad := HB.out p (List.mem_of_getElem? hp)
          obtain ⟨ob, oo, rfl, hcell⟩ := HR.out.fc ocells_length hsr.tail.tail.tail hp (by omega)
          obtain ⟨tx, ky, wr', fr⟩ := p
          have d0 := hcell _ hsr.tail.tail.tail 0 _ rfl
          have d1 := hcell _ hsr.tail.tail.tail 1 _ rfl
          have d2 := hcell _ hsr.tail.tail.tail 2 _ rfl
          have d3 := hcell _ hsr.tail.tail.tail 3 _ rfl
          simp only [Nat.add_zero] at d0 d1 d2 d3
          have hs3 := hsr.alloc #[.int .i64 tx, .int .i64 ky, .bool wr', .int .i64 fr] 65
          have b1 := hs3.blk_cell 1 rfl
          have hs4 : S w0 _ (blk w.heap.size 59 [.slice (some ⟨ob, oo, none⟩) l.length cap] :: mp Sep.encP (fun _ => True) wr.heap.size D :: blk (w.heap.size + 1) 79 [.int .i64 0, .int .i64 0] :: blk wx.heap.size 65 [.int .i64 tx, .int .i64 ky, .bool wr', .int .i64 fr] :: L) := hs3.conv (by simp only [all]; ac_rfl)
          have hcall := rwriters_any w0 _ w.heap.size _ l ky _ hs4 (RdK.more (RdK.more (RdK.more HR.out _) _) _) (by omega)
          have hwl := writers_le l ky
          have h0w : (0 : Int) ∉ writers l ky := fun h => by have := writers_pos HB.out h; omega
          have HC := hid hcall; have HSU := hid hsu; have HST := hid hstep; have HFI := hid hfind; have HBAD := hid hbad
          clear hcell hsr hs3 hs4 hcall hsu hstep hfind hbad hp hlo
          go_wp2_with (go_at_call 67; with_reducible refine HC.out.mono ?_; rintro e w5 ⟨u, rfl, hs5⟩; have H5 := hid hs5; clear hs5)
          obtain ⟨au, cu, rfl, hcu, hcu2, _⟩ := H5.out.sl_val
          unfold maxLen at hcu2
          generalize hws : writers l ky = ws at *
          have HWS := hid hws
          have hK0 : HasK D fun p => (∃ o ∈ l.take i, RefE l o p) ∨ ConsP ws 0 p := hset.out.congr fun p => by
            constructor
            · rintro (h | ⟨i, h, _⟩)
              · exact h
              · omega
            · exact .inl
          have HK0 := hid hK0
          have H6 := hid (H5.out.conv (M := mp Sep.encP (fun _ => True) wr.heap.size D :: sl 3 1 (.slice au ws.length cu) ws.length (icells ws) :: blk wx.heap.size 65 [.int .i64 tx, .int .i64 ky, .bool wr', .int .i64 fr] :: blk (w.heap.size + 1) 79 [.int .i64 0, .int .i64 0] :: blk w.heap.size 59 [.slice (some ⟨ob, oo, none⟩) l.length cap] :: L) (by simp only [all]; ac_rfl))
          clear HC H5 hK0 hset hws
          go_loopw [11] (fun c wy => ∃ (n : Nat) (D' : List ((Int × Int) × Value)), n ≤ ws.length ∧ c = .int .i64 ((n : Int) + 1) ∧ D'.length ≤ i * 902 + n ∧ Hid (HasK D' fun p => (∃ o ∈ l.take i, RefE l o p) ∨ ConsP ws n p) ∧ S w0 wy (mp Sep.encP (fun _ => True) wr.heap.size D' :: sl 3 1 (.slice au ws.length cu) ws.length (icells ws) :: blk wx.heap.size 65 [.int .i64 tx, .int .i64 ky, .bool wr', .int .i64 fr] :: blk (w.heap.size + 1) 79 [.int .i64 0, .int .i64 0] :: blk w.heap.size 59 [.slice (some ⟨ob, oo, none⟩) l.length cap] :: L)) (fun c _ => (ws.length + 1) - (intOf c).toNat)
          case atStart => exact ⟨0, D, Nat.zero_le _, rfl, hDl, HK0, H6.out⟩
          case round =>
            rename World => wy
            obtain ⟨n, D', hn, rfl, hDn, hK, hsr⟩ := hrel
            have hput1 := fun k v => length_put_le D' k v
            clear HK0 H6
            by_cases hnl : n + 1 < ws.length
            · have hx : ws[n]? = some ws[n] := by simp
              have hy : ws[n + 1]? = some ws[n + 1] := by simp [hnl]
              generalize ws[n] = x at hx
              generalize ws[n + 1] = y at hy
              obtain ⟨g, og, rfl, _, c0⟩ := hsr.swap.sl_int hx
              obtain ⟨g', og', hg, _, c1⟩ := hsr.swap.sl_int hy
              obtain ⟨rfl, rfl⟩ : g = g' ∧ og = og' := by simpa using hg
              have hK2 : HasK (mput D' (x, y) (.bool true)) fun p => (∃ o ∈ l.take i, RefE l o p) ∨ ConsP ws (n + 1) p := hK.out.put fun p => by rw [consP_succ hx hy]; exact or_assoc.symm
              obtain ⟨w6, u6, hs6⟩ := hsr.drew.put Tryd.keyPair Tryd.underlying130 (x, y) trivial (.bool true)
              simp only [Sep.encP] at u6
              have hn2 : (n : Int) + 1 < ws.length := by omega
              have hn3 : (n : Int) + 1 - 1 = n := by omega
              have HK2 := hid hK2; have H6 := hid hs6
              clear hg hx hy hsr hs6 hK hK2
              go_wp2_with fail
              go_region
              all_goals
                go_wp2_with fail
                go_roundw
                case rel => exact ⟨n + 1, _, by omega, by go_num, by have := hput1 (x, y) (.bool true); omega, HK2, H6.out⟩
                case measure => simp [intOf]; omega
            · --P3
              obtain ⟨ag, hau⟩ : ∃ x, x = au := ⟨_, rfl⟩
              have hKA : HasK D' fun p => (∃ o ∈ l.take i, RefE l o p) ∨ ConsP ws ws.length p := hK.out.congr fun p => by rw [consP_all (n := n) (by omega)]
              have b2 := hsr.tail.tail.blk_cell 2 rfl
              have hnl2 : (ws.length : Int) ≤ (n : Int) + 1 := by omega
              clear hK hau
              cases wr' with
              | true =>
                have hK2 : SetK l (i + 1) D' := HSU.out _ (hKA.congr fun p => by unfold RefE; rw [HWS.out]; simp)
                have hlo2 := HST.out (by simp [lostRead])
                have HK2 := hid hK2; have HLO := hid hlo2; have H6 := hid (hsr.conv (M := sl 3 1 (.slice au ws.length cu) ws.length (icells ws) :: blk wx.heap.size 65 [.int .i64 tx, .int .i64 ky, .bool true, .int .i64 fr] :: mp Sep.encP (fun _ => True) wr.heap.size D' :: blk (w.heap.size + 1) 79 [.int .i64 0, .int .i64 0] :: blk w.heap.size 59 [.slice (some ⟨ob, oo, none⟩) l.length cap] :: L) (by simp only [all]; ac_rfl)).tail.tail
                clear hK2 hlo2 hKA hsr HSU HST HFI
                go_wp2_with fail
                go_roundw
                case rel => exact ⟨i + 1, D', by omega, by go_num, by omega, HK2, HLO, H6.out⟩
                case measure => simp [intOf]; omega
              | false =>
                have hfin : ∀ D2, HasK D2 (fun p => ((∃ o ∈ l.take i, RefE l o p) ∨ ConsP ws ws.length p) ∨ ReadP ws ⟨tx, ky, false, fr⟩ p) → SetK l (i + 1) D2 := fun D2 h => HSU.out _ (h.congr fun p => by
                  unfold RefE; rw [HWS.out]
                  simp only [true_and]
                  exact or_assoc.symm)
                have HK := hid hKA; have HFN := hid hfin; have H6 := hid hsr
                clear hKA hfin hsr HSU
                go_wp2_with fail
                go_loopw [12] (fun c wz => ∃ m : Nat, m ≤ ws.length ∧ c = .int .i64 m ∧ Hid (∀ j < m, ws[j]? ≠ some fr) ∧ Hid (fr = 0 → m = 0) ∧ S w0 wz (mp Sep.encP (fun _ => True) wr.heap.size D' :: sl 3 1 (.slice au ws.length cu) ws.length (icells ws) :: blk wx.heap.size 65 [.int .i64 tx, .int .i64 ky, .bool false, .int .i64 fr] :: blk (w.heap.size + 1) 79 [.int .i64 0, .int .i64 0] :: blk w.heap.size 59 [.slice (some ⟨ob, oo, none⟩) l.length cap] :: L)) (fun c _ => (ws.length + 1) - (intOf c).toNat)
                case atStart => exact ⟨0, Nat.zero_le _, rfl, hid (by omega), hid (fun _ => rfl), H6.out⟩
                case round =>
                  rename World => wz
                  obtain ⟨m, hm, rfl, hno, hz, hsr⟩ := hrel
                  clear H6 b2
                  have q3 := hsr.tail.tail.blk_cell 3 rfl
                  have q0 := hsr.tail.tail.blk_cell 0 rfl
                  by_cases hfr : fr = 0
                  · subst hfr
                    obtain rfl : m = 0 := hz.out rfl
                    have hlo2 := HST.out (by simp [lostRead])
                    have HLO := hid hlo2
                    have hnx := nextOf_zero h0w
                    by_cases hnl3 : 0 < ws.length
                    · have hx : ws[0]? = some ws[0] := by simp [hnl3]
                      generalize ws[0] = x at hx
                      obtain ⟨g, og, rfl, _, c0⟩ := hsr.swap.sl_int hx
                      rw [Nat.add_zero] at c0
                      obtain ⟨w6, u6, hs6⟩ := hsr.drew.put Tryd.keyPair Tryd.underlying130 (tx, x) trivial (.bool true)
                      simp only [Sep.encP] at u6
                      have hK2 : SetK l (i + 1) (mput D' (tx, x) (.bool true)) := HFN.out _ (HK.out.put fun p => by
                        unfold ReadP
                        simp only [ne_eq, not_true_eq_false, false_and, false_or]
                        rw [hnx, hx]
                        constructor
                        · rintro (h | ⟨h1, h2⟩)
                          · exact .inl h
                          · exact .inr (Prod.ext h1 (Option.some.inj h2).symm)
                        · rintro (h | rfl)
                          · exact .inl h
                          · exact .inr ⟨rfl, rfl⟩)
                      have HLEN : (mput D' (tx, x) (.bool true)).length ≤ (i + 1) * 902 := by have := hput1 (tx, x) (.bool true); omega
                      have HK2 := hid hK2; have H6 := hid (hs6.conv (M := sl 3 1 (.slice (some ⟨g, og, none⟩) ws.length cu) ws.length (icells ws) :: blk wx.heap.size 65 [.int .i64 tx, .int .i64 ky, .bool false, .int .i64 0] :: mp Sep.encP (fun _ => True) wr.heap.size (mput D' (tx, x) (.bool true)) :: blk (w.heap.size + 1) 79 [.int .i64 0, .int .i64 0] :: blk w.heap.size 59 [.slice (some ⟨ob, oo, none⟩) l.length cap] :: L) (by simp only [all]; ac_rfl)).tail.tail
                      clear hsr hs6 hK2 hlo2 hnx hx hno hz HST HFI HK HFN
                      go_wp2_with fail
                      go_region
                      all_goals
                        go_wp2_with fail
                        go_roundw
                        case rel => exact ⟨i + 1, _, by omega, by go_num, HLEN, HK2, HLO, H6.out⟩
                        case measure => simp [intOf]; omega
                    · have hw0 : ws.length = 0 := by omega
                      have hK2 : SetK l (i + 1) D' := HFN.out _ (HK.out.congr fun p => by
                        unfold ReadP
                        simp only [ne_eq, not_true_eq_false, false_and, false_or]
                        rw [hnx, List.getElem?_eq_none (by omega)]
                        simp)
                      have HLEN : D'.length ≤ (i + 1) * 902 := by omega
                      have HK2 := hid hK2; have H6 := hid (hsr.conv (M := sl 3 1 (.slice au ws.length cu) ws.length (icells ws) :: blk wx.heap.size 65 [.int .i64 tx, .int .i64 ky, .bool false, .int .i64 0] :: mp Sep.encP (fun _ => True) wr.heap.size D' :: blk (w.heap.size + 1) 79 [.int .i64 0, .int .i64 0] :: blk w.heap.size 59 [.slice (some ⟨ob, oo, none⟩) l.length cap] :: L) (by simp only [all]; ac_rfl)).tail.tail
                      clear hsr hK2 hlo2 hnx hno hz HST HFI HK HFN
                      go_wp2_with fail
                      go_roundw
                      case rel => exact ⟨i + 1, _, by omega, by go_num, HLEN, HK2, HLO, H6.out⟩
                      case measure => simp [intOf]; omega
                  · have hfb : (fr != 0) = true := by simpa using hfr
                    by_cases hml : m = ws.length
                    · subst hml
                      have hnm : fr ∉ ws := fun h => by
                        obtain ⟨j, hj⟩ := List.getElem?_of_mem h
                        exact hno.out j (List.getElem?_eq_some_iff.1 hj).1 hj
                      have hx := HFI.out (by simp [lostRead, HWS.out, hnm, hfr])
                      have hs8 := (hsr.conv (M := blk (w.heap.size + 1) 79 [.int .i64 0, .int .i64 0] :: mp Sep.encP (fun _ => True) wr.heap.size D' :: sl 3 1 (.slice au ws.length cu) ws.length (icells ws) :: blk wx.heap.size 65 [.int .i64 tx, .int .i64 ky, .bool false, .int .i64 fr] :: blk w.heap.size 59 [.slice (some ⟨ob, oo, none⟩) l.length cap] :: L) (by simp only [all]; ac_rfl))
                      have e0 := hs8.blk_cell 0 rfl
                      have e1 := hs8.blk_cell 1 rfl
                      have f0 := hs8.blk_free 0
                      have f1 := hs8.blk_free 1
                      have hse := (hs8.blk_set 0 (by simp) (.int .i64 1)).blk_set 1 (by simp) (.int .i64 i)
                      have r0 := hse.blk_cell 0 rfl
                      have r1 := hse.blk_cell 1 rfl
                      have HX := hid hx; have HSE := hid hse.tail.tail.tail.tail.tail
                      clear hx hse hs8 hsr hno hz HST HFI HK HFN hnm
                      go_wp2_with fail
                      exact bodyPost_ret (v := .tuple #[.slice none 0 0, .agg #[.int .i64 1, .int .i64 i]]) (by simp [results, Tryd.results45, go_sem, r0, r1]) rfl (HP.out _ _ (by rw [HX.out]; exact ⟨rfl, HSE.out⟩))
                    · have hml2 : m < ws.length := by omega
                      have hmb : ((m : Int) == (ws.length : Int)) = false := by rw [beq_eq_false_iff_ne]; omega
                      have hml3 : (m : Int) ≤ (ws.length : Int) := by omega
                      have hx : ws[m]? = some ws[m] := by simp [hml2]
                      generalize ws[m] = x at hx
                      obtain ⟨g, og, rfl, _, c0⟩ := hsr.swap.sl_int hx
                      have hm1 : (m : Int) + 1 - 1 = m := by omega
                      have hm4 : (m : Int) < (ws.length : Int) := by omega
                      by_cases hxf : x = fr
                      · subst hxf
                        have hlo2 := HST.out (by simp [lostRead, HWS.out, List.mem_of_getElem? hx])
                        have HLO := hid hlo2
                        have hnx := nextOf_at hx hno.out
                        have HS6 := hid hsr
                        have HNX := hid hnx; have HXM := hid hx
                        clear hsr hlo2 hnx hno hz HST HFI hx hml hfr
                        go_wp2_with fail
                        go_quiet (fail)
                        have hsq := HS6.out.drewN nq
                        have q3 := hsq.tail.tail.blk_cell 3 rfl
                        have q0 := hsq.tail.tail.blk_cell 0 rfl
                        obtain ⟨w6, u6, hs6⟩ := hsq.put Tryd.keyPair Tryd.underlying130 (x, tx) trivial (.bool true)
                        simp only [Sep.encP] at u6
                        have p0 := hs6.tail.tail.blk_cell 0 rfl
                        by_cases hnl3 : m + 1 < ws.length
                        · have hy : ws[m + 1]? = some ws[m + 1] := by simp [hnl3]
                          generalize ws[m + 1] = y at hy
                          obtain ⟨g', og', hg, _, c1⟩ := hs6.swap.sl_int hy
                          obtain ⟨rfl, rfl⟩ : g = g' ∧ og = og' := by simpa using hg
                          obtain ⟨w7, u7, hs7⟩ := hs6.drew.put Tryd.keyPair Tryd.underlying130 (tx, y) trivial (.bool true)
                          simp only [Sep.encP] at u7
                          have hn3 : (m : Int) + 1 < (ws.length : Int) := by omega
                          have hn0 : (0 : Int) ≤ (m : Int) + 1 := by omega
                          have hK2 : SetK l (i + 1) (mput (mput D' (x, tx) (.bool true)) (tx, y) (.bool true)) := HFN.out _ ((HK.out.put (B := fun p => ((∃ o ∈ l.take i, RefE l o p) ∨ ConsP ws ws.length p) ∨ p = (x, tx)) fun p => Iff.rfl).put fun p => by
                            unfold ReadP
                            rw [HNX.out, hy]
                            have : x ≠ 0 := by simpa using hfb
                            constructor
                            · rintro (h | ⟨_, h⟩ | ⟨h1, h2⟩)
                              · exact .inl (.inl h)
                              · exact .inl (.inr h)
                              · exact .inr (Prod.ext h1 (Option.some.inj h2).symm)
                            · rintro ((h | h) | rfl)
                              · exact .inl h
                              · exact .inr (.inl ⟨this, h⟩)
                              · exact .inr (.inr ⟨rfl, rfl⟩))
                          have HLEN : (mput (mput D' (x, tx) (.bool true)) (tx, y) (.bool true)).length ≤ (i + 1) * 902 := by have := hput1 (x, tx) (.bool true); have := length_put_le (mput D' (x, tx) (.bool true)) (tx, y) (.bool true); omega
                          have HK2 := hid hK2; have H6 := hid (hs7.conv (M := sl 3 1 (.slice (some ⟨g, og, none⟩) ws.length cu) ws.length (icells ws) :: blk wx.heap.size 65 [.int .i64 tx, .int .i64 ky, .bool false, .int .i64 x] :: mp Sep.encP (fun _ => True) wr.heap.size (mput (mput D' (x, tx) (.bool true)) (tx, y) (.bool true)) :: blk (w.heap.size + 1) 79 [.int .i64 0, .int .i64 0] :: blk w.heap.size 59 [.slice (some ⟨ob, oo, none⟩) l.length cap] :: L) (by simp only [all]; ac_rfl)).tail.tail
                          clear hs6 hs7 hsq hK2 hg hy HK HFN HS6 HNX HXM
                          go_wp2_with fail
                          go_region
                          all_goals
                            go_wp2_with fail
                            go_roundw
                            case rel => exact ⟨i + 1, _, by omega, by go_num, HLEN, HK2, HLO, H6.out⟩
                            case measure => simp [intOf]; omega
                        · have hn3 : (ws.length : Int) ≤ (m : Int) + 1 := by omega
                          have hK2 : SetK l (i + 1) (mput D' (x, tx) (.bool true)) := HFN.out _ (HK.out.put fun p => by
                            unfold ReadP
                            rw [HNX.out, List.getElem?_eq_none (by omega)]
                            have : x ≠ 0 := by simpa using hfb
                            constructor
                            · rintro (h | ⟨_, h⟩ | ⟨_, h⟩)
                              · exact .inl h
                              · exact .inr h
                              · cases h
                            · rintro (h | h)
                              · exact .inl h
                              · exact .inr (.inl ⟨this, h⟩))
                          have HLEN : (mput D' (x, tx) (.bool true)).length ≤ (i + 1) * 902 := by have := hput1 (x, tx) (.bool true); omega
                          have HK2 := hid hK2; have H6 := hid (hs6.conv (M := sl 3 1 (.slice (some ⟨g, og, none⟩) ws.length cu) ws.length (icells ws) :: blk wx.heap.size 65 [.int .i64 tx, .int .i64 ky, .bool false, .int .i64 x] :: mp Sep.encP (fun _ => True) wr.heap.size (mput D' (x, tx) (.bool true)) :: blk (w.heap.size + 1) 79 [.int .i64 0, .int .i64 0] :: blk w.heap.size 59 [.slice (some ⟨ob, oo, none⟩) l.length cap] :: L) (by simp only [all]; ac_rfl)).tail.tail
                          clear hs6 hsq hK2 HK HFN HS6 HNX HXM
                          go_wp2_with fail
                          go_roundw
                          case rel => exact ⟨i + 1, _, by omega, by go_num, HLEN, HK2, HLO, H6.out⟩
                          case measure => simp [intOf]; omega
                      · have hxb : (x == fr) = false := by simpa using hxf
                        have hno2 : ∀ j < m + 1, ws[j]? ≠ some fr := fun j hj h => by
                          rcases Nat.lt_or_ge j m with g | g
                          · exact hno.out j g h
                          · obtain rfl : j = m := by omega
                            rw [hx] at h; exact hxf (Option.some.inj h)
                        have hz2 : fr = 0 → m + 1 = 0 := fun h => absurd h hfr
                        have HN2 := hid hno2; have HZ2 := hid hz2; have H6 := hid hsr
                        clear hsr hno hz HST HFI hx hml hfr hxf HK HFN hno2 hz2
                        go_wp2_with fail
                        go_quiet (fail)
                        go_wp2_with fail
                        go_roundw
                        case rel => exact ⟨m + 1, by omega, by go_num, HN2, HZ2, H6.out.drewN nq⟩
                        case measure => simp [intOf]; omega
        · --P4
          obtain rfl : i = l.length := by omega
          have hall : ∀ o ∈ l, lostRead l o = false := fun o ho => by
            obtain ⟨j, hj⟩ := List.getElem?_of_mem ho
            exact hlo.out j (List.getElem?_eq_some_iff.1 hj).1 o hj
          have hfi : l.findIdx? (lostRead l) = none := by
            rw [List.findIdx?_eq_none_iff]
            intro o ho; simp [hall o ho]
          have hkeys : HasK D fun p => ∃ o ∈ l, RefE l o p := by have := hset.out; unfold SetK at this; rw [List.take_length] at this; exact this
          have hDl2 : D.length ≤ 1000000 := by omega
          have hs3 := S.out_intro (tv := 29) (te := 31) (l := []) (v := .slice none 0 0) ((S.sl_nil (e := 31) (size := 2) (hsr.alloc #[.slice none 0 0] 29)).swap)
          obtain ⟨w3, ur, hs4⟩ := hs3.swap.range (P := Tryd.prog) Tryd.underlying130
          simp only [World.size_alloc] at ur hs4
          have H4 := hid hs4; have HFI := hid hfi; have HKEYS := hid hkeys
          clear hs3 hs4 hfi hkeys hall hlo hset hsr
          go_wp2_with fail
          clear ur
          go_loopg [] (D.length) (fun n wy => ∃ dn : List ((Int × Int) × Value), D.length ≤ dn.length + n ∧ dn.length ≤ D.length ∧
            S w0 wy (ranging Sep.encP (fun _ => True) wr.heap.size (wx.heap.size + 1) D dn :: outP 29 31 wx.heap.size (outQ dn) :: blk (w.heap.size + 1) 79 [.int .i64 0, .int .i64 0] :: blk w.heap.size 59 [.slice a l.length cap] :: L))
          case atStart => exact ⟨[], by simp, by simp, H4.out⟩
          case round =>
            rename World => wy
            obtain ⟨dn, hn, hdl, hsr⟩ := hrel
            clear H4
            rcases hsr.next Tryd.keyPair (ty := 0) with ⟨d, w4, hd1, hd2, hr, hs4⟩ | ⟨hall, hr⟩
            · have hent := hs4.entry (P := Tryd.prog)
              have hlen : (dn ++ [d]).length ≤ D.length := by
                have h1 := hs4.ranging_sub
                exact nodup_leO h1.1 h1.2.1
              rw [List.length_append, List.length_singleton] at hlen
              have hol := outQ_le dn
              have hsn := outQ_snoc dn d
              obtain ⟨⟨x, y⟩, vv⟩ := d
              simp only [Sep.encP] at hr hent
              obtain ⟨v5, h5⟩ := hs4.swap.out_elim
              have c0 := h5.blk_cell 0 rfl
              have f0 := h5.blk_free 0
              obtain ⟨av, cv, rfl, _, _, _⟩ := h5.swap.sl_val
              have h6 := (h5.alloc #[.int .i64 x, .int .i64 y] 31)
              have e0 := h6.blk_cell 0 rfl
              have e1 := h6.blk_cell 1 rfl
              have c0' := h6.swap.blk_cell 0 rfl
              have HSN := hid hsn; have H6 := hid h6
              clear hsr hs4 hd1 hd2 h5 h6 hsn
              by_cases hxy : x = y
              · subst hxy
                have hbne : (x != x) = false := by simp
                have h7 := H6.out.tail
                have h8 := S.out_intro (tv := 29) (te := 31) (l := outQ dn) h7
                have H8 := hid h8.swap
                clear h7 h8 H6
                go_wp2_with fail
                go_roundg (gk - 1)
                case measure => omega
                case rel => exact ⟨dn ++ [((x, x), vv)], by rw [List.length_append, List.length_singleton]; omega, by rw [List.length_append, List.length_singleton]; omega, by rw [HSN.out]; simpa using H8.out⟩
              · have hbne : (x != y) = true := by simpa using hxy
                obtain ⟨i0, hi0, hz0, hz1, hz2⟩ := info_parts Tryd.info31
                have h7 := H6.out.alloc #[.int .i64 x, .int .i64 y] 31
                rw [World.size_alloc] at h7
                have hn7 := news_blk h7
                have H7 := hid (h7.tail.tail.swap); have HN := hid hn7; have HPL := hid (pcells_length (outQ dn))
                have hq : ((x, y) : Int × Int).1 ≠ ((x, y) : Int × Int).2 := hxy
                have HQ := hid hq
                clear h7 hn7 H6 hxy hq
                go_wp2_with (at_builtin; refine wpList_append rfl (.tmp 129) (.tmp 131) 29 rfl 31 i0 (.agg #[.int .i64 0, .int .i64 0]) 2 16 Tryd.underlying29 hi0 hz0 hz1 hz2 rfl (by decide) H7.out rfl (some ⟨w4.heap.size + 1, 0, none⟩) 1 1 [.int .i64 x, .int .i64 y] rfl rfl HN.out (by simp [Value.oneCell']) (by unfold maxLen; omega) (by omega) ?_; intro v1 w5 hs6; obtain ⟨a6, c6', rfl, _, _, _⟩ := hs6.sl_val; have c6 := hs6.swap.blk_cell 0 rfl; have f6 := hs6.swap.blk_free 0; have H8 := hid hs6; clear hs6)
                go_roundg (gk - 1)
                case measure => omega
                case rel =>
                  refine ⟨dn ++ [((x, y), vv)], by rw [List.length_append, List.length_singleton]; omega, by rw [List.length_append, List.length_singleton]; omega, ?_⟩
                  rw [HSN.out, if_pos (by simpa using HQ.out)]
                  have h9 := H8.out.swap.blk_set 0 (by simp) (.slice a6 ((outQ dn).length + 1) c6')
                  refine S.swap (S.out_intro (v := .slice a6 ((outQ dn).length + 1) c6') ?_)
                  rw [List.length_append, pcells_append]
                  exact h9
            · obtain ⟨hperm, hs5⟩ := hsr.range_over hall
              have hmem : ∀ p, p ∈ outQ dn ↔ Edge l p := fun p => by
                have hk : p ∈ D.map (·.1) ↔ ∃ o ∈ l, RefE l o p := HKEYS.out p
                rw [← refE_edge HB.out, ← hk, ← (hperm.map (fun d : (Int × Int) × Value => d.1)).mem_iff]
                unfold outQ
                simp only [List.mem_filter, decide_eq_true_eq]
              have hnd : (outQ dn).Nodup := by
                unfold outQ
                exact List.Pairwise.filter _ ((hperm.map (fun d : (Int × Int) × Value => d.1)).nodup_iff.2 hs5.nodup)
              have hol := outQ_le dn
              generalize outQ dn = out at *
              obtain ⟨v5, h6⟩ := hs5.swap.out_elim
              have q9 := h6.blk_cell 0 rfl
              have hsort := rsort_any w0 _ wx.heap.size v5 out _ h6.swap (by omega)
              have HSO := hid hsort; have HMEM := hid hmem; have HND := hid hnd
              obtain ⟨a5, c5, rfl, _, _, _⟩ := h6.swap.sl_val
              clear hsr hall hperm hs5 hmem hnd h6 hsort
              go_wp2_with fail
              with_reducible refine HSO.out.mono ?_
              rintro e w5 ⟨rfl, srt, hp5, hs5, h7⟩
              have hE := edgesOf_ref HMEM.out HND.out hp5 hs5
              have q9 := h7.swap.blk_cell 0 rfl
              have hEl : srt.length = out.length := hp5.length_eq
              have H7 := hid h7.drew; have HE := hid hE
              have q8 := h7.drew.swap.blk_cell 0 rfl
              clear h7 hE HSO hp5 hs5
              go_wp2_with fail
              go_region_with (go_at_call 64; with_reducible refine (Bare_any _ _).mono ?_; rintro e w' ⟨rfl, hbw⟩; have hsb := (H7.out).onto hbw; have q9 := hsb.swap.blk_cell 0 rfl; have hsf := hsb.conv (M := blk (w.heap.size + 1) 79 [.int .i64 0, .int .i64 0] :: sl 31 2 (.slice a5 out.length c5) srt.length (pcells srt) :: blk wx.heap.size 29 [.slice a5 out.length c5] :: mp Sep.encP (fun _ => True) wr.heap.size D :: blk w.heap.size 59 [.slice a l.length cap] :: L) (by simp only [all]; ac_rfl); have e0 := hsf.blk_cell 0 rfl; have e1 := hsf.blk_cell 1 rfl; have f0 := hsf.blk_free 0; have f1 := hsf.blk_free 1; have hse := (hsf.blk_set 0 (by simp) (.int .i64 0)).blk_set 1 (by simp) (.int .i64 (-1)); have r0 := hse.blk_cell 0 rfl; have r1 := hse.blk_cell 1 rfl; have HF := hid hse.tail; clear hsb hsf hse)
              all_goals
                go_wp2_with fail
                exact bodyPost_ret (v := .tuple #[.slice a5 out.length c5, .agg #[.int .i64 0, .int .i64 (-1)]]) (by simp [results, Tryd.results45, go_sem, r0, r1]) rfl (HP.out _ _ (by rw [HFI.out]; exact ⟨_, srt, rfl, HE.out, (HF.out.conv (M := blk wx.heap.size 29 [.slice a5 out.length c5] :: mp Sep.encP (fun _ => True) wr.heap.size D :: blk w.heap.size 59 [.slice a l.length cap] :: sl 31 2 (.slice a5 out.length c5) srt.length (pcells srt) :: L) (by simp only [all]; ac_rfl)).tail.tail.tail⟩))
end Go.Proofs.YthdiphfbjlooaaaDoor
