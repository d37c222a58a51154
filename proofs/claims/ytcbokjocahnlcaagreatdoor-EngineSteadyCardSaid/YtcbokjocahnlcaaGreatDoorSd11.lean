/- Regions that append one element to each of several slices, in whatever order. No program in sight. (Printed by mkreg3.py.) -/
import Derived.Test.YtcbokjocahnlcaaGreatDoorSd10
import Derived.Test.YtcbokjocahnlcaaGreatDoorSd8
import Derived.Test.YtcbokjocahnlcaaGreatDoorSd4
import Derived.Test.YtcbokjocahnlcaaGreatDoorSd3
import Derived.Great.BuildSlice
/- interleafkeep's tale: what one act turns in the memory; Tell at the engine's errors. -/
namespace Go.Proofs.YtcbokjocahnlcaaGreatDoor
open Go Go.RowKit Go.Sep

theorem map_modify {α β : Type} {g : α → β} {f : α → α} (h : ∀ x, g (f x) = g x) (l : List α) (i : Nat) : (l.modify i f).map g = l.map g := by
  apply List.ext_getElem?
  intro j
  simp only [List.getElem?_map, List.getElem?_modify]
  cases l[j]? with
  | none => rfl
  | some x =>
    by_cases hij : i = j <;> simp [hij, h]
theorem map_modify_set {α β : Type} {g : α → β} {f : α → α} {u : β} (h : ∀ x, g (f x) = u) (l : List α) (i : Nat) : (l.modify i f).map g = (l.map g).set i u := by
  apply List.ext_getElem?
  intro j
  simp only [List.getElem?_map, List.getElem?_modify, List.getElem?_set, List.length_map]
  by_cases hij : i = j
  · subst hij
    by_cases hl : i < l.length
    · simp [hl, h]
    · rw [if_pos rfl, if_neg hl]
      simp [List.getElem?_eq_none (Nat.le_of_not_lt hl)]
  · simp [hij]
theorem modify_eq_set {α : Type} {f : α → α} {l : List α} {i : Nat} {d : α} (hi : i < l.length) : l.modify i f = l.set i (f ((l[i]?).getD d)) := by
  apply List.ext_getElem?
  intro j
  simp only [List.getElem?_modify, List.getElem?_set]
  by_cases hij : i = j
  · subst hij; simp [hi]
  · simp [hij]
section
variable {w w0 : World} {L : List HProp} {b be : Nat} {k : TaleV} {t : Tale} {i : Nat} {P : Program}
theorem updR_len (f : Rec → Rec) : (t.updR i f).recs.length = t.recs.length := by simp [Tale.updR]
theorem updR_recs (f : Rec → Rec) (hi : i < t.recs.length) : (t.updR i f).recs = t.recs.set i (f (t.one i)) := by
  unfold Tale.updR Tale.one
  exact modify_eq_set hi
/-- Who is over now: one slot of a slice. -/
theorem _root_.Go.Sep.S.tale_over (h : S w0 w (taleB b be k t :: all (recPs k.vs t.recs) :: L)) (hi : i < t.recs.length) {g o cap : Nat} (hv : k.wv = .slice (some ⟨g, o, none⟩) t.recs.length cap) (u : Int) :
    S w0 (w.setCell ⟨g, o + i, none⟩ (.int .i64 u)) (taleB b be k (t.updR i fun r => { r with over := u }) :: all (recPs k.vs (t.updR i fun r => { r with over := u }).recs) :: L) := by
  obtain ⟨hl, h⟩ := h.tale_parts
  have h2 := h.conv (M := sl 3 1 k.wv t.recs.length (icells (t.recs.map (·.over))) :: blk b 35 (taleF be k t) :: sl 3 1 k.lv t.recs.length (icells (t.recs.map (·.level))) :: sl 37 1 k.sv t.recs.length (k.vs.map (·.sv)) :: sl 57 1 k.ov t.recs.length (k.vs.map mapV) ::
    sl 65 1 k.rv t.recs.length (k.vs.map (·.rv)) :: sl 3 1 k.bv t.recs.length (icells (t.recs.map (·.begun))) :: all (recPs k.vs t.recs) :: L) (by simp only [all]; ac_rfl)
  have h3 := h2.sl_set hv i (by simp [icells]; exact hi) (.int .i64 u)
  have e1 : (icells (t.recs.map (·.over))).set i (.int .i64 u) = icells ((t.updR i fun r => { r with over := u }).recs.map (·.over)) := by
    unfold Tale.updR icells
    rw [map_modify_set (g := fun r : Rec => r.over) (u := u) (fun _ => rfl)]
    rw [List.map_set]
  have e2 : recPs k.vs (t.updR i fun r => { r with over := u }).recs = recPs k.vs t.recs := by
    rw [updR_recs _ hi]
    apply List.ext_getElem (by simp [recPs])
    intro j h1 h2
    simp only [recPs, List.getElem_map, List.getElem_range, List.getElem?_set]
    by_cases hij : i = j
    · subst hij
      simp only [hi, if_true]
      unfold Tale.one
      rfl
    · simp [hij]
  rw [e1] at h3
  rw [e2]
  refine S.tale_join (by rw [updR_len]; exact hl) ?_
  rw [updR_len]
  have f1 : (t.updR i fun r => { r with over := u }).recs.map (·.level) = t.recs.map (·.level) := by unfold Tale.updR; refine map_modify ?_ _ _; intro x; rfl
  have f2 : (t.updR i fun r => { r with over := u }).recs.map (·.begun) = t.recs.map (·.begun) := by unfold Tale.updR; refine map_modify ?_ _ _; intro x; rfl
  rw [f1, f2]
  exact h3.conv (by simp only [all]; show sep _ (sep (blk b _ (taleF be k t)) _) = sep (blk b _ (taleF be k t)) _; ac_rfl)
/-- What a reader sees of one record's own parts. -/
theorem _root_.Go.Sep.S.rec_see (h : S w0 w (all (recPs k.vs t.recs) :: L)) (hi : i < t.recs.length) : MapAt encI (fun _ => True) w (k.v i).mb (ienc (t.one i).own) := by
  have h1 := (h.rec_out hi).sep_elim
  exact (h1.tail.sep_elim).mapAt
theorem rec_snap (hi : i < t.recs.length) : RdK w0 (all (recPs k.vs t.recs) :: L) (k.v i).sv (t.one i).snap.length (pcells (t.one i).snap) := by
  intro W h
  exact RdK.own _ (h.rec_out hi).sep_elim
/-- What one wrote is turned. -/
theorem _root_.Go.Sep.S.tale_own (h : S w0 w (taleB b be k t :: all (recPs k.vs t.recs) :: L)) (hi : i < t.recs.length) (key v : Int) :
    ∃ w', (Instr.mapUpdate 57 (.map (some (k.v i).mb)) (.int .i64 key) (.int .i64 v)).run Tryz.prog w = .ok () w' ∧
      S w0 w' (taleB b be k (t.updR i fun r => { r with own := mput r.own key v }) :: all (recPs k.vs (t.updR i fun r => { r with own := mput r.own key v }).recs) :: L) := by
  have hl := h.tale_see.1.len
  have h1 := (h.swap.rec_out hi).sep_elim
  have h2 := h1.conv (M := mp encI (fun _ => True) (k.v i).mb (ienc (t.one i).own) :: sl 44 2 (k.v i).sv (t.one i).snap.length (pcells (t.one i).snap) :: sl 67 2 (k.v i).rv (t.one i).reads.length (pcells (t.one i).reads) :: all ((recPs k.vs t.recs).set i emp) :: taleB b be k t :: L) (by simp only [all]; ac_rfl)
  obtain ⟨w', h3, h4⟩ := h2.put Tryz.keyInt Tryz.underlying57 key trivial (Sep.encI v)
  refine ⟨w', h3, ?_⟩
  rw [ienc_put] at h4
  have h5 : S w0 w' (recP (k.v i) { t.one i with own := mput (t.one i).own key v } :: all ((recPs k.vs t.recs).set i emp) :: taleB b be k t :: L) := .sep_intro (h4.conv (by simp only [all]; ac_rfl))
  have h6 := h5.rec_in hl hi
  have e0 : k.vs.set i (k.v i) = k.vs := by
    have hiv : i < k.vs.length := by omega
    unfold TaleV.v
    simp [hiv]
  rw [e0] at h6
  have e1 := updR_recs (t := t) (i := i) (fun r => { r with own := mput r.own key v }) hi
  rw [e1]
  refine S.swap (h6.conv ?_)
  have f1 : (t.updR i fun r => { r with own := mput r.own key v }).recs.map (·.level) = t.recs.map (·.level) := by unfold Tale.updR; refine map_modify ?_ _ _; intro x; rfl
  have f2 : (t.updR i fun r => { r with own := mput r.own key v }).recs.map (·.begun) = t.recs.map (·.begun) := by unfold Tale.updR; refine map_modify ?_ _ _; intro x; rfl
  have f3 : (t.updR i fun r => { r with own := mput r.own key v }).recs.map (·.over) = t.recs.map (·.over) := by unfold Tale.updR; refine map_modify ?_ _ _; intro x; rfl
  have e2 : taleB b be k (t.updR i fun r => { r with own := mput r.own key v }) = taleB b be k t := by
    unfold taleB
    rw [f1, f2, f3, updR_len]
    rfl
  rw [e2]
/-- One more that was read. -/
theorem _root_.Go.Sep.S.tale_reads {u : Value} {key v : Int} (h : S w0 w (sl 67 2 u ((t.one i).reads.length + 1) (pcells (t.one i).reads ++ [.int .i64 key, .int .i64 v]) :: sl 44 2 (k.v i).sv (t.one i).snap.length (pcells (t.one i).snap) :: mp encI (fun _ => True) (k.v i).mb (ienc (t.one i).own) :: all ((recPs k.vs t.recs).set i emp) :: taleB b be k t :: L))
    (hi : i < t.recs.length) {g o cap : Nat} (hv : k.rv = .slice (some ⟨g, o, none⟩) t.recs.length cap) :
    ∃ k', S w0 (w.setCell ⟨g, o + i, none⟩ u) (taleB b be k' (t.updR i fun r => { r with reads := r.reads ++ [(key, v)] }) :: all (recPs k'.vs (t.updR i fun r => { r with reads := r.reads ++ [(key, v)] }).recs) :: L) := by
  have hA := h.conv (M := taleB b be k t :: sl 67 2 u ((t.one i).reads.length + 1) (pcells (t.one i).reads ++ [.int .i64 key, .int .i64 v]) :: sl 44 2 (k.v i).sv (t.one i).snap.length (pcells (t.one i).snap) :: mp encI (fun _ => True) (k.v i).mb (ienc (t.one i).own) :: all ((recPs k.vs t.recs).set i emp) :: L) (by simp only [all]; ac_rfl)
  obtain ⟨hl, h1⟩ := hA.tale_parts
  have h2 := h1.conv (M := sl 65 1 k.rv t.recs.length (k.vs.map (·.rv)) :: blk b 35 (taleF be k t) :: sl 3 1 k.lv t.recs.length (icells (t.recs.map (·.level))) :: sl 37 1 k.sv t.recs.length (k.vs.map (·.sv)) :: sl 57 1 k.ov t.recs.length (k.vs.map mapV) ::
    sl 3 1 k.bv t.recs.length (icells (t.recs.map (·.begun))) :: sl 3 1 k.wv t.recs.length (icells (t.recs.map (·.over))) :: sl 67 2 u ((t.one i).reads.length + 1) (pcells (t.one i).reads ++ [.int .i64 key, .int .i64 v]) :: sl 44 2 (k.v i).sv (t.one i).snap.length (pcells (t.one i).snap) :: mp encI (fun _ => True) (k.v i).mb (ienc (t.one i).own) :: all ((recPs k.vs t.recs).set i emp) :: L) (by simp only [all]; ac_rfl)
  have h3 := h2.sl_set hv i (by simp; omega) u
  let v' : RecV := ⟨(k.v i).sv, (k.v i).mb, u⟩
  let r' : Rec := { t.one i with reads := (t.one i).reads ++ [(key, v)] }
  have hiv : i < k.vs.length := by omega
  have er : (t.updR i fun r => { r with reads := r.reads ++ [(key, v)] }).recs = t.recs.set i r' := updR_recs _ hi
  refine ⟨{ k with vs := k.vs.set i v' }, ?_⟩
  have e1 : (k.vs.map (·.rv)).set i u = (k.vs.set i v').map (·.rv) := by rw [List.map_set]
  have e2 : (k.vs.set i v').map (·.sv) = k.vs.map (·.sv) := by
    rw [List.map_set]
    have : v'.sv = (k.vs.map (·.sv))[i]'(by simpa using hiv) := by simp [v', TaleV.v, hiv]
    rw [this, List.set_getElem_self]
  have e3 : (k.vs.set i v').map mapV = k.vs.map mapV := by
    rw [List.map_set]
    have : mapV v' = (k.vs.map mapV)[i]'(by simpa using hiv) := by simp [v', TaleV.v, hiv, mapV]
    rw [this, List.set_getElem_self]
  have ep : pcells (t.one i).reads ++ [.int .i64 key, .int .i64 v] = pcells r'.reads := by simp [r', pcells]
  rw [e1, ep] at h3
  have h4 : S w0 (w.setCell ⟨g, o + i, none⟩ u) (recP v' r' :: all ((recPs k.vs t.recs).set i emp) :: blk b 35 (taleF be k t) :: sl 3 1 k.lv t.recs.length (icells (t.recs.map (·.level))) :: sl 37 1 k.sv t.recs.length (k.vs.map (·.sv)) :: sl 57 1 k.ov t.recs.length (k.vs.map mapV) ::
    sl 65 1 k.rv t.recs.length ((k.vs.set i v').map (·.rv)) :: sl 3 1 k.bv t.recs.length (icells (t.recs.map (·.begun))) :: sl 3 1 k.wv t.recs.length (icells (t.recs.map (·.over))) :: L) := by
    refine .sep_intro ?_
    refine h3.conv ?_
    simp only [all]
    have hr : r'.reads.length = (t.one i).reads.length + 1 := by simp [r']
    show _ = sep (sl _ 2 (k.v i).sv (t.one i).snap.length (pcells (t.one i).snap)) (sep (sep (mp encI (fun _ => True) (k.v i).mb (ienc (t.one i).own)) (sl _ 2 u r'.reads.length (pcells r'.reads))) _)
    rw [hr]
    ac_rfl
  have h5 := h4.rec_in hl hi
  have f1 : (t.updR i fun r => { r with reads := r.reads ++ [(key, v)] }).recs.map (·.level) = t.recs.map (·.level) := by unfold Tale.updR; refine map_modify ?_ _ _; intro x; rfl
  have f2 : (t.updR i fun r => { r with reads := r.reads ++ [(key, v)] }).recs.map (·.begun) = t.recs.map (·.begun) := by unfold Tale.updR; refine map_modify ?_ _ _; intro x; rfl
  have f3 : (t.updR i fun r => { r with reads := r.reads ++ [(key, v)] }).recs.map (·.over) = t.recs.map (·.over) := by unfold Tale.updR; refine map_modify ?_ _ _; intro x; rfl
  refine S.tale_join (by rw [updR_len]; simpa using hl) ?_
  rw [f1, f2, f3, updR_len, er]
  show S w0 _ (_ :: _ :: sl _ 1 k.sv _ ((k.vs.set i v').map (·.sv)) :: sl _ 1 k.ov _ ((k.vs.set i v').map mapV) :: _)
  rw [e2, e3]
  refine h5.conv ?_
  simp only [all]
  show _ = sep (blk b _ (taleF be k t)) _
  ac_rfl
end
/-- The first j are asked whether they are over. -/
def Tale.oversTo (t : Tale) (j : Nat) : Tale := { t with recs := t.recs.mapIdx fun i r => if i < j then overStep t.e t.steps i r else r }
theorem Tale.oversTo_zero (t : Tale) : t.oversTo 0 = t := by
  unfold Tale.oversTo
  have : t.recs.mapIdx (fun i r => if i < 0 then overStep t.e t.steps i r else r) = t.recs := by
    apply List.ext_getElem (by simp)
    intro i h1 h2
    simp
  rw [this]
theorem Tale.oversTo_len (t : Tale) (j : Nat) : (t.oversTo j).recs.length = t.recs.length := by simp [Tale.oversTo]
theorem Tale.oversTo_all (t : Tale) {n : Nat} (h : n = t.recs.length) : t.oversTo n = t.overs := by
  subst h
  unfold Tale.oversTo Tale.overs
  have : t.recs.mapIdx (fun i r => if i < t.recs.length then overStep t.e t.steps i r else r) = t.recs.mapIdx (overStep t.e t.steps) := by
    apply List.ext_getElem (by simp)
    intro i h1 h2
    have h3 : i < t.recs.length := by simpa using h1
    simp [h3]
  rw [this]
theorem Tale.oversTo_one (t : Tale) {j : Nat} (hj : j < t.recs.length) : (t.oversTo j).one j = t.one j := by
  unfold Tale.oversTo Tale.one
  simp [hj]
theorem Tale.oversTo_stay (t : Tale) {j : Nat} (hj : j < t.recs.length) (h : ¬((t.one j).over = 0 ∧ (t.e.state ((j : Int) + 1)).2.2 = 0 ∧ 2 ≤ (t.e.state ((j : Int) + 1)).1)) : t.oversTo (j + 1) = t.oversTo j := by
  unfold Tale.oversTo
  have : t.recs.mapIdx (fun i r => if i < j + 1 then overStep t.e t.steps i r else r) = t.recs.mapIdx (fun i r => if i < j then overStep t.e t.steps i r else r) := by
    apply List.ext_getElem (by simp)
    intro i h1 h2
    have h3 : i < t.recs.length := by simpa using h1
    simp only [List.getElem_mapIdx]
    by_cases hij : i < j
    · rw [if_pos hij, if_pos (by omega)]
    · rw [if_neg hij]
      by_cases he : i = j
      · subst he
        rw [if_pos (by omega)]
        have : t.one i = t.recs[i] := by unfold Tale.one; simp [h3]
        rw [this] at h
        unfold overStep
        rw [if_neg h]
      · rw [if_neg (by omega)]
  rw [this]
theorem Tale.oversTo_turn (t : Tale) {j : Nat} (hj : j < t.recs.length) (h : (t.one j).over = 0 ∧ (t.e.state ((j : Int) + 1)).2.2 = 0 ∧ 2 ≤ (t.e.state ((j : Int) + 1)).1) : t.oversTo (j + 1) = (t.oversTo j).updR j fun r => { r with over := t.steps } := by
  unfold Tale.oversTo Tale.updR
  have : t.recs.mapIdx (fun i r => if i < j + 1 then overStep t.e t.steps i r else r) = (t.recs.mapIdx (fun i r => if i < j then overStep t.e t.steps i r else r)).modify j fun r => { r with over := t.steps } := by
    apply List.ext_getElem (by simp)
    intro i h1 h2
    have h3 : i < t.recs.length := by simpa using h1
    simp only [List.getElem_mapIdx, List.getElem_modify]
    by_cases he : i = j
    · subst he
      rw [if_pos (by omega), if_pos rfl, if_neg (by omega)]
      have : t.one i = t.recs[i] := by unfold Tale.one; simp [h3]
      rw [this] at h
      unfold overStep
      rw [if_pos h]
    · rw [if_neg (Ne.symm he)]
      by_cases hij : i < j
      · rw [if_pos hij, if_pos (by omega)]
      · rw [if_neg hij, if_neg (by omega)]
  rw [this]
/-- What the last loop sees. -/
structure OverC (w : World) (b be : Nat) (n : Nat) (al : Option Addr) (cl gw ow cw : Nat) (t : Tale) : Prop where
  e : w.cell? ⟨b, 0, none⟩ = some (.pointer (some ⟨be, 0, none⟩))
  level : w.cell? ⟨b, 1, none⟩ = some (.slice al n cl)
  over : w.cell? ⟨b, 6, none⟩ = some (.slice (some ⟨gw, ow, none⟩) n cw)
  steps : w.cell? ⟨b, 7, none⟩ = some (.int .i64 t.steps)
  row : ∀ i, i < n → w.cell? ⟨gw, ow + i, none⟩ = some (.int .i64 (t.one i).over) ∧ w.frozen? ⟨gw, ow + i, none⟩ = false
theorem over_see {w w0 : World} {L : List HProp} {b be : Nat} {k : TaleV} {t : Tale} {n : Nat} (hn : t.recs.length = n) (hp : 0 < n) (h : S w0 w (taleB b be k t :: L)) :
    ∃ al cl gw ow cw, n ≤ cl ∧ cl ≤ maxLen ∧ n ≤ cw ∧ cw ≤ maxLen ∧ k.lv = .slice al n cl ∧ k.wv = .slice (some ⟨gw, ow, none⟩) n cw ∧ ∀ (W : World) (M : List HProp) (t' : Tale), t'.recs.length = n → S w0 W (taleB b be k t' :: M) → OverC W b be n al cl gw ow cw t' := by
  obtain ⟨hc, ⟨al, cl, h1, h2, h3, _⟩, _, _, _, _, ⟨aw, cw, h4, h5, h6, h7⟩⟩ := h.tale_see
  rw [hn] at h1 h2 h4 h5
  obtain ⟨gw, ow, rfl, _, _⟩ := h7 0 (by rw [hn]; exact hp)
  refine ⟨al, cl, gw, ow, cw, h2, h3, h5, h6, h1, h4, fun W M t' hl' h' => ?_⟩
  obtain ⟨hc', _, _, _, _, _, ⟨aw', cw', g4, _, _, g7⟩⟩ := h'.tale_see
  rw [hl'] at g4 g7
  rw [h4] at g4
  simp only [Value.slice.injEq] at g4
  obtain ⟨g4, _, _⟩ := g4
  refine ⟨hc'.e, by rw [← h1]; exact hc'.level, by rw [← h4]; exact hc'.over, hc'.steps, fun i hi => ?_⟩
  obtain ⟨g, o, q1, q2, q3⟩ := g7 i hi
  rw [← g4] at q1
  simp only [Option.some.injEq, Addr.mk.injEq] at q1
  obtain ⟨q1, q1', _⟩ := q1
  subst q1 q1'
  exact ⟨q2, q3⟩
/-- What a read, or a write, sees of a tale. -/
structure ReadC (w : World) (b be n x : Nat) (gl ol cl gs os cs go oo co gr or_ cr : Nat) (k : TaleV) (t : Tale) : Prop where
  e : w.cell? ⟨b, 0, none⟩ = some (.pointer (some ⟨be, 0, none⟩))
  level : w.cell? ⟨b, 1, none⟩ = some (.slice (some ⟨gl, ol, none⟩) n cl)
  snap : w.cell? ⟨b, 2, none⟩ = some (.slice (some ⟨gs, os, none⟩) n cs)
  own : w.cell? ⟨b, 3, none⟩ = some (.slice (some ⟨go, oo, none⟩) n co)
  reads : w.cell? ⟨b, 4, none⟩ = some (.slice (some ⟨gr, or_, none⟩) n cr)
  num : w.cell? ⟨b, 8, none⟩ = some (.int .i64 t.n)
  broken : w.cell? ⟨b, 9, none⟩ = some (.bool t.broken)
  free : ∀ j, w.frozen? ⟨b, j, none⟩ = false
  xlevel : w.cell? ⟨gl, ol + x, none⟩ = some (.int .i64 (t.one x).level)
  xsnap : w.cell? ⟨gs, os + x, none⟩ = some (k.v x).sv
  xown : w.cell? ⟨go, oo + x, none⟩ = some (.map (some (k.v x).mb))
  xreads : w.cell? ⟨gr, or_ + x, none⟩ = some (k.v x).rv
  xfree : w.frozen? ⟨gr, or_ + x, none⟩ = false
theorem read_see {w w0 : World} {L : List HProp} {b be : Nat} {k : TaleV} {t : Tale} {n x : Nat} (hn : t.recs.length = n) (hx : x < n) (h : S w0 w (taleB b be k t :: L)) :
    ∃ gl ol cl gs os cs go oo co gr or_ cr, n ≤ cl ∧ cl ≤ maxLen ∧ n ≤ cs ∧ cs ≤ maxLen ∧ n ≤ co ∧ co ≤ maxLen ∧ n ≤ cr ∧ cr ≤ maxLen ∧ k.rv = .slice (some ⟨gr, or_, none⟩) n cr ∧ ∀ (W : World) (M : List HProp) (t' : Tale), t'.recs.length = n → S w0 W (taleB b be k t' :: M) → ReadC W b be n x gl ol cl gs os cs go oo co gr or_ cr k t' := by
  obtain ⟨hc, ⟨al, cl, h1, h2, h3, h4⟩, ⟨as_, cs, i1, i2, i3, i4⟩, ⟨ao, co, j1, j2, j3, j4⟩, ⟨ar, cr, l1, l2, l3, l4⟩, _, _⟩ := h.tale_see
  rw [hn] at h1 h2 h4 i1 i2 i4 j1 j2 j4 l1 l2 l4
  obtain ⟨gl, ol, rfl, _, _⟩ := h4 x hx
  obtain ⟨gs, os, rfl, _, _⟩ := i4 x hx
  obtain ⟨go, oo, rfl, _, _⟩ := j4 x hx
  obtain ⟨gr, or_, rfl, _, _⟩ := l4 x hx
  refine ⟨gl, ol, cl, gs, os, cs, go, oo, co, gr, or_, cr, h2, h3, i2, i3, j2, j3, l2, l3, l1, fun W M t' hl' h' => ?_⟩
  have pick : ∀ {v : Value} {g o c : Nat} {f : Nat → Value}, v = .slice (some ⟨g, o, none⟩) n c → RowAt W v t'.recs.length f → W.cell? ⟨g, o + x, none⟩ = some (f x) ∧ W.frozen? ⟨g, o + x, none⟩ = false := by
    intro v g o c f hv ⟨a, c', e1, _, _, e4⟩
    rw [hl'] at e1 e4
    rw [hv] at e1
    simp only [Value.slice.injEq] at e1
    obtain ⟨e1, _, _⟩ := e1
    obtain ⟨g2, o2, q1, q2, q3⟩ := e4 x hx
    rw [← e1] at q1
    simp only [Option.some.injEq, Addr.mk.injEq] at q1
    obtain ⟨q1, q1', _⟩ := q1
    subst q1 q1'
    exact ⟨q2, q3⟩
  obtain ⟨hc', r1, r2, r3, r4, _, _⟩ := h'.tale_see
  exact ⟨hc'.e, by rw [← h1]; exact hc'.level, by rw [← i1]; exact hc'.snap, by rw [← j1]; exact hc'.own, by rw [← l1]; exact hc'.reads, hc'.n, hc'.broken, hc'.free, (pick h1 r1).1, (pick i1 r2).1, (pick j1 r3).1, (pick l1 r4).1, (pick l1 r4).2⟩
theorem _root_.Go.Sep.S.tale_mark {w w0 : World} {L : List HProp} {b be : Nat} {k : TaleV} {t : Tale} (h : S w0 w (taleB b be k t :: L)) : S w0 (w.setCell ⟨b, 9, none⟩ (.bool true)) (taleB b be k (t.marked true) :: L) :=
  h.tale_set rfl (by decide) (by simp [taleF, Tale.marked])
theorem marked_false (t : Tale) : t.marked false = t := by unfold Tale.marked; simp
/-- Tell, at an error of the engine's. -/
def errOf (x : Int) : Err := if x = 0 then .nil else .no x
theorem errno_of (x : Int) : Err.errno (errOf x) = x := by
  unfold errOf
  split
  · rename_i h; rw [h]; rfl
  · rfl
theorem errP_of {w w0 : World} {L : List HProp} (x : Int) (h : S w0 w L) : S w0 w (errP 47 118 116 (errV x) (errOf x) :: L) := by
  unfold errOf
  split
  · rename_i hx; rw [hx]; exact S.pur_intro rfl h
  · rename_i hx; exact S.pur_intro (errV_ne hx) h
theorem tellV_any (w0 w : World) (x : Int) (L : List HProp) (hE : ErrT w0) (hs : S w0 w L) :
    Calls Tryz.prog 27 #[errV x] w fun r w' => r = .returned (.int .i64 x) ∧ S w0 w' L :=
  (tell_any (errOf x) (errV x) w0 w L hE (errP_of x hs)).mono fun r w' ⟨h1, h2⟩ => ⟨by rw [h1, errno_of], h2.tail⟩
end Go.Proofs.YtcbokjocahnlcaaGreatDoor
/- interleafkeep's fact ran: the walk. Condition: the package variable errors.errorType holds the handle of the type error. -/
namespace Go.Proofs.YtcbokjocahnlcaaGreatDoor
open Go Go.RowKit Go.Sep

theorem ok_1 : OkT 10 ran1 [] := by have := OkT.start.begun 2; rw [ran_1] at this; exact this
theorem ok_2 : OkT 10 ran2 [] := by have := ok_1.begun 2; rw [ran_2] at this; exact this
theorem ok_3 : OkT 1010 ran3 [] := by have := ok_2.red 1 1; rw [ran_3] at this; exact this
theorem ok_4 : OkT 2010 ran4 [] := by have := ok_3.red 2 2; rw [ran_4] at this; exact this
theorem ok_5 : OkT 3010 ran5 [] := by have := ok_4.wrote 1 2 5; rw [ran_5] at this; exact this
theorem ok_6 : OkT 4010 ran6 [] := by have := ok_5.wrote 2 1 6; rw [ran_6] at this; exact this
theorem ok_7 : OkT 4010 ran7 [] := by have := ok_6.committed 1; rw [ran_7] at this; exact this
set_option maxHeartbeats 4000000 in
set_option maxRecDepth 40000 in
theorem ran_any (w0 w : World) (L : List HProp) (hE : ErrT w0) (hs : S w0 w L) :
    Calls Tryz.prog 6 #[] w fun r w' => r = .returned (.bool true) ∧ S w0 w' L := by
  have hn := new_any w0 w L hs
  have HN := hid hn
  clear hn hs
  go_enter Tryz.func6, Tryz.ntmps6
  go_wp2_with fail
  with_reducible refine HN.out.mono ?_
  rintro r w1 ⟨rfl, hs1⟩
  have h1 := ebegin_any w0 w1 _ [] Eng.zero 2 L 10 OkT.start hs1
  rw [ran_1] at h1
  dsimp only at h1
  rw [errV_0] at h1
  have H1 := hid h1
  clear h1 hs1 HN
  go_wp2_with fail
  with_reducible refine H1.out.mono ?_
  rintro r w2 ⟨rfl, bs2, hs2⟩
  have h2 := ebegin_any w0 w2 _ bs2 ran1 2 L 10 ok_1 hs2
  rw [ran_2] at h2
  dsimp only at h2
  rw [errV_0] at h2
  have H2 := hid h2
  clear h2 hs2 H1
  go_wp2_with fail
  with_reducible refine H2.out.mono ?_
  rintro r w3 ⟨rfl, bs3, hs3⟩
  have h3 := eread_any w0 w3 _ bs3 ran2 1 1 L 10 hE ok_2 (by decide) hs3
  rw [ran_3] at h3
  dsimp only at h3
  have H3 := hid h3
  clear h3 hs3 H2
  go_wp2_with fail
  with_reducible refine H3.out.mono ?_
  rintro r w4 ⟨rfl, hs4⟩
  have h4 := eread_any w0 w4 _ bs3 ran3 2 2 L 1010 hE ok_3 (by decide) hs4
  rw [ran_4] at h4
  dsimp only at h4
  have H4 := hid h4
  clear h4 hs4 H3
  go_wp2_with fail
  with_reducible refine H4.out.mono ?_
  rintro r w5 ⟨rfl, hs5⟩
  have h5 := ewrite_any w0 w5 _ bs3 ran4 1 2 5 L 2010 ok_4 (by decide) hs5
  rw [ran_5] at h5
  dsimp only at h5
  rw [errV_0] at h5
  have H5 := hid h5
  clear h5 hs5 H4
  go_wp2_with fail
  with_reducible refine H5.out.mono ?_
  rintro r w6 ⟨rfl, hs6⟩
  have h6 := ewrite_any w0 w6 _ bs3 ran5 2 1 6 L 3010 ok_5 (by decide) hs6
  rw [ran_6] at h6
  dsimp only at h6
  rw [errV_0] at h6
  have H6 := hid h6
  clear h6 hs6 H5
  go_wp2_with fail
  with_reducible refine H6.out.mono ?_
  rintro r w7 ⟨rfl, hs7⟩
  have h8 := tellV_any w0 w7 8 _ hE hs7
  have H8 := hid h8
  clear h8 hs7 H6
  go_wp2_with fail
  with_reducible refine H8.out.mono ?_
  rintro r w8 ⟨rfl, hs8⟩
  have h9 := tellV_any w0 w8 8 _ hE hs8
  have H9 := hid h9
  clear h9 hs8 H8
  go_wp2_with fail
  with_reducible refine H9.out.mono ?_
  rintro r w9 ⟨rfl, hs9⟩
  have h10 := ecommit_any w0 w9 _ bs3 ran6 1 L 4010 hE ok_6 (by decide) hs9
  rw [ran_7] at h10
  dsimp only at h10
  have H10 := hid h10
  clear h10 hs9 H9
  go_wp2_with fail
  with_reducible refine H10.out.mono ?_
  rintro r w10 ⟨rfl, hs10⟩
  have h11 := ecommit_any w0 w10 _ bs3 ran7 2 L 4010 hE ok_7 (by decide) hs10
  rw [ran_8, errV_0] at h11
  have H11 := hid h11
  clear h11 hs10 H10
  go_wp2_with fail
  with_reducible refine H11.out.mono ?_
  rintro r w11 ⟨rfl, hs11⟩
  have h12 := tellV_any w0 w11 13 _ hE hs11
  have H12 := hid h12
  clear h12 hs11 H11
  go_wp2_with fail
  with_reducible refine H12.out.mono ?_
  rintro r w12 ⟨rfl, hs12⟩
  obtain ⟨k12, hk12⟩ := hs12.eng_open
  have h13 := elast_any w0 w12 _ (ran7.commit 2).1 _ hk12
  rw [last_8] at h13
  have H13 := hid h13
  have HS := hid hs12.tail
  clear h13 hs12 hk12 H12
  go_wp2_with fail
  with_reducible refine H13.out.mono ?_
  rintro r w13 ⟨rfl, rfl⟩
  go_wp2_with fail
  go_ret
  exact ⟨rfl, HS.out⟩
end Go.Proofs.YtcbokjocahnlcaaGreatDoor
namespace Go.Sep
open Go Go.RowKit
/-- What a slot holds. -/
structure At (a : Act) (i : Nat) (v : Value) : Prop where
  lt : i < a.tmps.size
  ev : a.eval (.tmp i) = v
theorem Act.put_size (a : Act) (i : Nat) (v : Value) : (a.put (some i) v).tmps.size = a.tmps.size := by simp [Act.put]
theorem At.new {a : Act} {i : Nat} {v : Value} (h : i < a.tmps.size) : At (a.put (some i) v) i v := ⟨by rw [Act.put_size]; exact h, by simp [Act.put, Act.eval, h]⟩
theorem At.keep {a : Act} {i j : Nat} {u v : Value} (hij : i ≠ j) (h : At a i v) : At (a.put (some j) u) i v := ⟨by rw [Act.put_size]; exact h.lt, by
  have := h.ev
  simp only [Act.put, Act.eval] at this ⊢
  rw [← this]
  simp [Array.getD_eq_getD_getElem?, Ne.symm hij]⟩
theorem Act.put_swap (a : Act) (i j : Nat) (u v : Value) (h : i ≠ j) : (a.put (some i) u).put (some j) v = (a.put (some j) v).put (some i) u := by
  simp only [Act.put]
  rw [Array.setIfInBounds_comm _ _ h]
theorem one_val {v : Value} (h : v.oneCell' = true) : ∀ u ∈ [v], u.oneCell' = true := by intro u hu; rw [List.mem_singleton.1 hu]; exact h
section
variable {P : Program} {w w0 : World} {L : List HProp}
theorem step_makeMapU {ops : Array Oper} {o : Oper} {a : Act} {K : Act → World → Prop} {Q : Exit → Act → World → Prop} {E : Prop} (hg : o.guard = none) (t : TypeId) (hop : o.op = .makeMap t none) (hW : S w0 w L)
    (h : ∀ m w', S w0 w' (mp Sep.encI (fun _ => True) m [] :: L) → K (a.put o.dst (.map (some m))) w') : if Region.wanted o (yielded ops a.tmps) = true then Oper.wp P o a w K Q else E := by
  rw [if_pos (by simp [Region.wanted, hg])]
  unfold Oper.wp execOp
  simp only [hop, Option.map_none, Sem.run_bind, run_makeMap, Result.andThen_ok, Sem.run_pure]
  exact h _ _ hW.made
theorem step_buildU {ops : Array Oper} {o : Oper} {a : Act} {K : Act → World → Prop} {Q : Exit → Act → World → Prop} {E : Prop} (hg : o.guard = none) (t e : TypeId) (x : Operand) (hop : o.op = .buildSlice t 1 #[(0, x)])
    (i : TypeInfo) (z : Value) (ht : P.underlying t = some (.slice e)) (hi : P.info? e = some i) (hz : i.zero = some z) (hsize : i.size = 1) {y : Value} (hx : a.eval x = y) (h1 : y.oneCell' = true) (hW : S w0 w L)
    (h : ∀ b w', S w0 w' (sl e 1 (.slice (some ⟨b, 0, none⟩) 1 1) 1 [y] :: L) → K (a.put o.dst (.slice (some ⟨b, 0, none⟩) 1 1)) w') : if Region.wanted o (yielded ops a.tmps) = true then Oper.wp P o a w K Q else E := by
  rw [if_pos (by simp [Region.wanted, hg])]
  refine wp_buildSlice t e 1 #[(0, x)] hop #[y] i z ht hi hz (by rw [hsize]; decide) (by rw [hsize]; decide) ?_ (h _ _ (hW.alloc_slU [y] 1 rfl (by unfold maxLen; omega)))
  rw [hsize]
  simp only [List.map_toArray, List.map_cons, List.map_nil, hx]
  have hyc : y.cells = #[y] := by cases y <;> first | rfl | cases h1
  simp [Instr.fill, hyc]
  apply Array.ext
  · simp
  · intro i h1 h2
    have h3 : i = 0 := by simpa using h2
    subst h3
    simp
end

set_option linter.unusedSimpArgs false in
set_option maxHeartbeats 4000000 in
theorem region_a {P : Program} {ops : Array Oper} {Q : Exit → Act → World → Prop} {Sf : World → Prop} {u k n : Nat} {F : Act} {l : Array Bool} {w0 : World} {X R : HProp}
    (hkeep : ∀ w M, S w0 w (X :: M) → Sf w) (hn : n + 1 ≤ 1000000000000)
    (t1 e1 : TypeId) (i1 : TypeInfo) (z1 : Value) (by1 : Nat) (ht1 : P.underlying t1 = some (.slice e1)) (hi1 : P.info? e1 = some i1) (hz1 : i1.zero = some z1) (hs1 : i1.size = 1) (hy1 : i1.bytes = by1) (hc1 : z1.cells.size = 1) (hb1 : by1 ≤ 100)
    (a1 : Option Addr) (c1 : Nat) (xs1 : List Value) (y1 : Value) (ho1 : y1.oneCell' = true)
    (A1 : At F 82 (.slice a1 n c1)) (Y1 : At F 83 y1)
    (t2 e2 : TypeId) (i2 : TypeInfo) (z2 : Value) (by2 : Nat) (ht2 : P.underlying t2 = some (.slice e2)) (hi2 : P.info? e2 = some i2) (hz2 : i2.zero = some z2) (hs2 : i2.size = 1) (hy2 : i2.bytes = by2) (hc2 : z2.cells.size = 1) (hb2 : by2 ≤ 100)
    (a2 : Option Addr) (c2 : Nat) (xs2 : List Value) (y2 : Value) (ho2 : y2.oneCell' = true)
    (A2 : At F 89 (.slice a2 n c2)) (Y2 : At F 90 y2)
    (t3 e3 : TypeId) (i3 : TypeInfo) (z3 : Value) (by3 : Nat) (ht3 : P.underlying t3 = some (.slice e3)) (hi3 : P.info? e3 = some i3) (hz3 : i3.zero = some z3) (hs3 : i3.size = 1) (hy3 : i3.bytes = by3) (hc3 : z3.cells.size = 1) (hb3 : by3 ≤ 100)
    (a3 : Option Addr) (c3 : Nat) (xs3 : List Value)
    (A3 : At F 96 (.slice a3 n c3))
    (o8 : Oper) (h8 : ops[8]? = some o8) (g8 : o8.guard = none) (p8 : o8.op = .buildSlice t1 1 #[(0, .tmp 83)]) (d8 : o8.dst = some 84) (s8 : 84 < F.tmps.size)
    (o9 : Oper) (h9 : ops[9]? = some o9) (g9 : o9.guard = none) (p9 : o9.op = .call { callee := .builtin .append, args := #[.tmp 82, .tmp 84], argTypes := #[t1, t1] }) (d9 : o9.dst = some 85)
    (o15 : Oper) (h15 : ops[15]? = some o15) (g15 : o15.guard = none) (p15 : o15.op = .buildSlice t2 1 #[(0, .tmp 90)]) (d15 : o15.dst = some 91) (s15 : 91 < F.tmps.size)
    (o16 : Oper) (h16 : ops[16]? = some o16) (g16 : o16.guard = none) (p16 : o16.op = .call { callee := .builtin .append, args := #[.tmp 89, .tmp 91], argTypes := #[t2, t2] }) (d16 : o16.dst = some 92)
    (tm3 : TypeId)
    (o21 : Oper) (h21 : ops[21]? = some o21) (g21 : o21.guard = none) (p21 : o21.op = .makeMap tm3 none) (d21 : o21.dst = some 97) (s21 : 97 < F.tmps.size)
    (o22 : Oper) (h22 : ops[22]? = some o22) (g22 : o22.guard = none) (p22 : o22.op = .buildSlice t3 1 #[(0, .tmp 97)]) (d22 : o22.dst = some 98) (s22 : 98 < F.tmps.size)
    (o23 : Oper) (h23 : ops[23]? = some o23) (g23 : o23.guard = none) (p23 : o23.op = .call { callee := .builtin .append, args := #[.tmp 96, .tmp 98], argTypes := #[t3, t3] }) (d23 : o23.dst = some 99)
    (rz8_9_15_16_21_22 : Region.ready .any ops ((((((l.setIfInBounds 8 true).setIfInBounds 9 true).setIfInBounds 15 true).setIfInBounds 16 true).setIfInBounds 21 true).setIfInBounds 22 true) = [23])
    (rz8_9_15_16_21 : Region.ready .any ops (((((l.setIfInBounds 8 true).setIfInBounds 9 true).setIfInBounds 15 true).setIfInBounds 16 true).setIfInBounds 21 true) = [22])
    (rz8_9_15_21_22 : Region.ready .any ops (((((l.setIfInBounds 8 true).setIfInBounds 9 true).setIfInBounds 15 true).setIfInBounds 21 true).setIfInBounds 22 true) = [16])
    (rz8_9_15_16 : Region.ready .any ops ((((l.setIfInBounds 8 true).setIfInBounds 9 true).setIfInBounds 15 true).setIfInBounds 16 true) = [21])
    (rz8_9_15_21 : Region.ready .any ops ((((l.setIfInBounds 8 true).setIfInBounds 9 true).setIfInBounds 15 true).setIfInBounds 21 true) = [16, 22])
    (rz8_9_21_22 : Region.ready .any ops ((((l.setIfInBounds 8 true).setIfInBounds 9 true).setIfInBounds 21 true).setIfInBounds 22 true) = [15])
    (rz8_15_21_22 : Region.ready .any ops ((((l.setIfInBounds 8 true).setIfInBounds 15 true).setIfInBounds 21 true).setIfInBounds 22 true) = [9])
    (rz8_9_15 : Region.ready .any ops (((l.setIfInBounds 8 true).setIfInBounds 9 true).setIfInBounds 15 true) = [16, 21])
    (rz8_9_21 : Region.ready .any ops (((l.setIfInBounds 8 true).setIfInBounds 9 true).setIfInBounds 21 true) = [15, 22])
    (rz8_15_21 : Region.ready .any ops (((l.setIfInBounds 8 true).setIfInBounds 15 true).setIfInBounds 21 true) = [9, 22])
    (rz8_21_22 : Region.ready .any ops (((l.setIfInBounds 8 true).setIfInBounds 21 true).setIfInBounds 22 true) = [9, 15])
    (rz15_21_22 : Region.ready .any ops (((l.setIfInBounds 15 true).setIfInBounds 21 true).setIfInBounds 22 true) = [8])
    (rz8_9 : Region.ready .any ops ((l.setIfInBounds 8 true).setIfInBounds 9 true) = [15, 21])
    (rz8_15 : Region.ready .any ops ((l.setIfInBounds 8 true).setIfInBounds 15 true) = [9, 21])
    (rz8_21 : Region.ready .any ops ((l.setIfInBounds 8 true).setIfInBounds 21 true) = [9, 15, 22])
    (rz15_21 : Region.ready .any ops ((l.setIfInBounds 15 true).setIfInBounds 21 true) = [8, 22])
    (rz21_22 : Region.ready .any ops ((l.setIfInBounds 21 true).setIfInBounds 22 true) = [8, 15])
    (rz8 : Region.ready .any ops (l.setIfInBounds 8 true) = [9, 15, 21])
    (rz15 : Region.ready .any ops (l.setIfInBounds 15 true) = [8, 21])
    (rz21 : Region.ready .any ops (l.setIfInBounds 21 true) = [8, 15, 22])
    (rz : Region.ready .any ops l = [8, 15, 21])
    (hend : ∀ (w : World) (b1 : Nat) (v1 : Value) (b2 : Nat) (v2 : Value) (m3 : Nat) (b3 : Nat) (v3 : Value), S w0 w [X, sl e1 1 v1 (n + 1) (xs1 ++ [y1]), sl e2 1 v2 (n + 1) (xs2 ++ [y2]), sl e3 1 v3 (n + 1) (xs3 ++ [(.map (some m3))]), mp Sep.encI (fun _ => True) m3 [], R, sl e1 1 (.slice (some ⟨b1, 0, none⟩) 1 1) 1 [y1], sl e2 1 (.slice (some ⟨b2, 0, none⟩) 1 1) 1 [y2], sl e3 1 (.slice (some ⟨b3, 0, none⟩) 1 1) 1 [(.map (some m3))]] → anyU P .any ops Q Sf u (k + 0) (((((((l.setIfInBounds 8 true).setIfInBounds 9 true).setIfInBounds 15 true).setIfInBounds 16 true).setIfInBounds 21 true).setIfInBounds 22 true).setIfInBounds 23 true) (((((((F.put (some 84) (.slice (some ⟨b1, 0, none⟩) 1 1)).put (some 85) v1).put (some 91) (.slice (some ⟨b2, 0, none⟩) 1 1)).put (some 92) v2).put (some 97) (.map (some m3))).put (some 98) (.slice (some ⟨b3, 0, none⟩) 1 1)).put (some 99) v3) w)
    (w : World) (h : S w0 w [X, sl e1 1 (.slice a1 n c1) n xs1, sl e2 1 (.slice a2 n c2) n xs2, sl e3 1 (.slice a3 n c3) n xs3, R]) : anyU P .any ops Q Sf u (k + 7) l F w := by
  have z8_9_15_16_21_22_23 := hend
  have z8_9_15_16_21_22 : ∀ (w : World) (b1 : Nat) (v1 : Value) (b2 : Nat) (v2 : Value) (m3 : Nat) (b3 : Nat), S w0 w [X, sl e1 1 v1 (n + 1) (xs1 ++ [y1]), sl e2 1 v2 (n + 1) (xs2 ++ [y2]), sl e3 1 (.slice a3 n c3) n xs3, mp Sep.encI (fun _ => True) m3 [], R, sl e1 1 (.slice (some ⟨b1, 0, none⟩) 1 1) 1 [y1], sl e2 1 (.slice (some ⟨b2, 0, none⟩) 1 1) 1 [y2], sl e3 1 (.slice (some ⟨b3, 0, none⟩) 1 1) 1 [(.map (some m3))]] → anyU P .any ops Q Sf u (k + 1) ((((((l.setIfInBounds 8 true).setIfInBounds 9 true).setIfInBounds 15 true).setIfInBounds 16 true).setIfInBounds 21 true).setIfInBounds 22 true) ((((((F.put (some 84) (.slice (some ⟨b1, 0, none⟩) 1 1)).put (some 85) v1).put (some 91) (.slice (some ⟨b2, 0, none⟩) 1 1)).put (some 92) v2).put (some 97) (.map (some m3))).put (some 98) (.slice (some ⟨b3, 0, none⟩) 1 1)) w := by
    intro w b1 v1 b2 v2 m3 b3 HS
    refine anyU_next rz8_9_15_16_21_22 (by simp) ?_
    refine NextU.cons h23 (fun K hK => ?_) ?_
    · refine step_appU g23 (.tmp 96) (.tmp 98) t3 p23 e3 i3 z3 1 by3 ht3 hi3 hz3 hs3 hy3 hc3 (by decide) HS 3 rfl ((At.keep (by decide) (At.keep (by decide) (At.keep (by decide) (At.keep (by decide) (At.keep (by decide) (At.keep (by decide) A3))))))).ev _ 1 1 [(.map (some m3))] ((At.new (by simpa only [Act.put_size] using s22))).ev rfl (HS.news_slK 8 rfl) (one_val rfl) hn hb3 (fun v3 w' HS => ?_)
      refine hK.out _ _ (fun _ => hkeep _ _ (HS.nth 1 rfl)) ?_
      rw [d23]
      exact z8_9_15_16_21_22_23 _ b1 v1 b2 v2 m3 b3 v3 (HS.conv (by simp only [all, List.eraseIdx_cons_succ, List.eraseIdx_cons_zero]; ac_rfl))
    exact NextU.nil
  have z8_9_15_16_21 : ∀ (w : World) (b1 : Nat) (v1 : Value) (b2 : Nat) (v2 : Value) (m3 : Nat), S w0 w [X, sl e1 1 v1 (n + 1) (xs1 ++ [y1]), sl e2 1 v2 (n + 1) (xs2 ++ [y2]), sl e3 1 (.slice a3 n c3) n xs3, mp Sep.encI (fun _ => True) m3 [], R, sl e1 1 (.slice (some ⟨b1, 0, none⟩) 1 1) 1 [y1], sl e2 1 (.slice (some ⟨b2, 0, none⟩) 1 1) 1 [y2]] → anyU P .any ops Q Sf u (k + 2) (((((l.setIfInBounds 8 true).setIfInBounds 9 true).setIfInBounds 15 true).setIfInBounds 16 true).setIfInBounds 21 true) (((((F.put (some 84) (.slice (some ⟨b1, 0, none⟩) 1 1)).put (some 85) v1).put (some 91) (.slice (some ⟨b2, 0, none⟩) 1 1)).put (some 92) v2).put (some 97) (.map (some m3))) w := by
    intro w b1 v1 b2 v2 m3 HS
    refine anyU_next rz8_9_15_16_21 (by simp) ?_
    refine NextU.cons h22 (fun K hK => ?_) ?_
    · refine step_buildU g22 t3 e3 _ p22 i3 z3 ht3 hi3 hz3 hs3 ((At.new (by simpa only [Act.put_size] using s21))).ev rfl HS (fun b3 w' HS => ?_)
      refine hK.out _ _ (fun _ => hkeep _ _ (HS.nth 1 rfl)) ?_
      rw [d22]
      exact z8_9_15_16_21_22 _ b1 v1 b2 v2 m3 b3 (HS.conv (by simp only [all, List.eraseIdx_cons_succ, List.eraseIdx_cons_zero]; ac_rfl))
    exact NextU.nil
  have z8_9_15_21_22 : ∀ (w : World) (b1 : Nat) (v1 : Value) (b2 : Nat) (m3 : Nat) (b3 : Nat), S w0 w [X, sl e1 1 v1 (n + 1) (xs1 ++ [y1]), sl e2 1 (.slice a2 n c2) n xs2, sl e3 1 (.slice a3 n c3) n xs3, mp Sep.encI (fun _ => True) m3 [], R, sl e1 1 (.slice (some ⟨b1, 0, none⟩) 1 1) 1 [y1], sl e2 1 (.slice (some ⟨b2, 0, none⟩) 1 1) 1 [y2], sl e3 1 (.slice (some ⟨b3, 0, none⟩) 1 1) 1 [(.map (some m3))]] → anyU P .any ops Q Sf u (k + 2) (((((l.setIfInBounds 8 true).setIfInBounds 9 true).setIfInBounds 15 true).setIfInBounds 21 true).setIfInBounds 22 true) (((((F.put (some 84) (.slice (some ⟨b1, 0, none⟩) 1 1)).put (some 85) v1).put (some 91) (.slice (some ⟨b2, 0, none⟩) 1 1)).put (some 97) (.map (some m3))).put (some 98) (.slice (some ⟨b3, 0, none⟩) 1 1)) w := by
    intro w b1 v1 b2 m3 b3 HS
    refine anyU_next rz8_9_15_21_22 (by simp) ?_
    refine NextU.cons h16 (fun K hK => ?_) ?_
    · refine step_appU g16 (.tmp 89) (.tmp 91) t2 p16 e2 i2 z2 1 by2 ht2 hi2 hz2 hs2 hy2 hc2 (by decide) HS 2 rfl ((At.keep (by decide) (At.keep (by decide) (At.keep (by decide) (At.keep (by decide) (At.keep (by decide) A2)))))).ev _ 1 1 [y2] ((At.keep (by decide) (At.keep (by decide) (At.new (by simpa only [Act.put_size] using s15))))).ev rfl (HS.news_slK 7 rfl) (one_val ho2) hn hb2 (fun v2 w' HS => ?_)
      refine hK.out _ _ (fun _ => hkeep _ _ (HS.nth 1 rfl)) ?_
      rw [d16]
      rw [Act.put_swap _ 98 92 _ _ (by decide), Array.setIfInBounds_comm _ _ (show 22 ≠ 16 by decide)]
      rw [Act.put_swap _ 97 92 _ _ (by decide), Array.setIfInBounds_comm _ _ (show 21 ≠ 16 by decide)]
      exact z8_9_15_16_21_22 _ b1 v1 b2 v2 m3 b3 (HS.conv (by simp only [all, List.eraseIdx_cons_succ, List.eraseIdx_cons_zero]; ac_rfl))
    exact NextU.nil
  have z8_9_15_16 : ∀ (w : World) (b1 : Nat) (v1 : Value) (b2 : Nat) (v2 : Value), S w0 w [X, sl e1 1 v1 (n + 1) (xs1 ++ [y1]), sl e2 1 v2 (n + 1) (xs2 ++ [y2]), sl e3 1 (.slice a3 n c3) n xs3, R, sl e1 1 (.slice (some ⟨b1, 0, none⟩) 1 1) 1 [y1], sl e2 1 (.slice (some ⟨b2, 0, none⟩) 1 1) 1 [y2]] → anyU P .any ops Q Sf u (k + 3) ((((l.setIfInBounds 8 true).setIfInBounds 9 true).setIfInBounds 15 true).setIfInBounds 16 true) ((((F.put (some 84) (.slice (some ⟨b1, 0, none⟩) 1 1)).put (some 85) v1).put (some 91) (.slice (some ⟨b2, 0, none⟩) 1 1)).put (some 92) v2) w := by
    intro w b1 v1 b2 v2 HS
    refine anyU_next rz8_9_15_16 (by simp) ?_
    refine NextU.cons h21 (fun K hK => ?_) ?_
    · refine step_makeMapU g21 tm3 p21 HS (fun m3 w' HS => ?_)
      refine hK.out _ _ (fun _ => hkeep _ _ (HS.nth 1 rfl)) ?_
      rw [d21]
      exact z8_9_15_16_21 _ b1 v1 b2 v2 m3 (HS.conv (by simp only [all, List.eraseIdx_cons_succ, List.eraseIdx_cons_zero]; ac_rfl))
    exact NextU.nil
  have z8_9_15_21 : ∀ (w : World) (b1 : Nat) (v1 : Value) (b2 : Nat) (m3 : Nat), S w0 w [X, sl e1 1 v1 (n + 1) (xs1 ++ [y1]), sl e2 1 (.slice a2 n c2) n xs2, sl e3 1 (.slice a3 n c3) n xs3, mp Sep.encI (fun _ => True) m3 [], R, sl e1 1 (.slice (some ⟨b1, 0, none⟩) 1 1) 1 [y1], sl e2 1 (.slice (some ⟨b2, 0, none⟩) 1 1) 1 [y2]] → anyU P .any ops Q Sf u (k + 3) ((((l.setIfInBounds 8 true).setIfInBounds 9 true).setIfInBounds 15 true).setIfInBounds 21 true) ((((F.put (some 84) (.slice (some ⟨b1, 0, none⟩) 1 1)).put (some 85) v1).put (some 91) (.slice (some ⟨b2, 0, none⟩) 1 1)).put (some 97) (.map (some m3))) w := by
    intro w b1 v1 b2 m3 HS
    refine anyU_next rz8_9_15_21 (by simp) ?_
    refine NextU.cons h16 (fun K hK => ?_) ?_
    · refine step_appU g16 (.tmp 89) (.tmp 91) t2 p16 e2 i2 z2 1 by2 ht2 hi2 hz2 hs2 hy2 hc2 (by decide) HS 2 rfl ((At.keep (by decide) (At.keep (by decide) (At.keep (by decide) (At.keep (by decide) A2))))).ev _ 1 1 [y2] ((At.keep (by decide) (At.new (by simpa only [Act.put_size] using s15)))).ev rfl (HS.news_slK 7 rfl) (one_val ho2) hn hb2 (fun v2 w' HS => ?_)
      refine hK.out _ _ (fun _ => hkeep _ _ (HS.nth 1 rfl)) ?_
      rw [d16]
      rw [Act.put_swap _ 97 92 _ _ (by decide), Array.setIfInBounds_comm _ _ (show 21 ≠ 16 by decide)]
      exact z8_9_15_16_21 _ b1 v1 b2 v2 m3 (HS.conv (by simp only [all, List.eraseIdx_cons_succ, List.eraseIdx_cons_zero]; ac_rfl))
    refine NextU.cons h22 (fun K hK => ?_) ?_
    · refine step_buildU g22 t3 e3 _ p22 i3 z3 ht3 hi3 hz3 hs3 ((At.new (by simpa only [Act.put_size] using s21))).ev rfl HS (fun b3 w' HS => ?_)
      refine hK.out _ _ (fun _ => hkeep _ _ (HS.nth 1 rfl)) ?_
      rw [d22]
      exact z8_9_15_21_22 _ b1 v1 b2 m3 b3 (HS.conv (by simp only [all, List.eraseIdx_cons_succ, List.eraseIdx_cons_zero]; ac_rfl))
    exact NextU.nil
  have z8_9_21_22 : ∀ (w : World) (b1 : Nat) (v1 : Value) (m3 : Nat) (b3 : Nat), S w0 w [X, sl e1 1 v1 (n + 1) (xs1 ++ [y1]), sl e2 1 (.slice a2 n c2) n xs2, sl e3 1 (.slice a3 n c3) n xs3, mp Sep.encI (fun _ => True) m3 [], R, sl e1 1 (.slice (some ⟨b1, 0, none⟩) 1 1) 1 [y1], sl e3 1 (.slice (some ⟨b3, 0, none⟩) 1 1) 1 [(.map (some m3))]] → anyU P .any ops Q Sf u (k + 3) ((((l.setIfInBounds 8 true).setIfInBounds 9 true).setIfInBounds 21 true).setIfInBounds 22 true) ((((F.put (some 84) (.slice (some ⟨b1, 0, none⟩) 1 1)).put (some 85) v1).put (some 97) (.map (some m3))).put (some 98) (.slice (some ⟨b3, 0, none⟩) 1 1)) w := by
    intro w b1 v1 m3 b3 HS
    refine anyU_next rz8_9_21_22 (by simp) ?_
    refine NextU.cons h15 (fun K hK => ?_) ?_
    · refine step_buildU g15 t2 e2 _ p15 i2 z2 ht2 hi2 hz2 hs2 ((At.keep (by decide) (At.keep (by decide) (At.keep (by decide) (At.keep (by decide) Y2))))).ev ho2 HS (fun b2 w' HS => ?_)
      refine hK.out _ _ (fun _ => hkeep _ _ (HS.nth 1 rfl)) ?_
      rw [d15]
      rw [Act.put_swap _ 98 91 _ _ (by decide), Array.setIfInBounds_comm _ _ (show 22 ≠ 15 by decide)]
      rw [Act.put_swap _ 97 91 _ _ (by decide), Array.setIfInBounds_comm _ _ (show 21 ≠ 15 by decide)]
      exact z8_9_15_21_22 _ b1 v1 b2 m3 b3 (HS.conv (by simp only [all, List.eraseIdx_cons_succ, List.eraseIdx_cons_zero]; ac_rfl))
    exact NextU.nil
  have z8_15_21_22 : ∀ (w : World) (b1 : Nat) (b2 : Nat) (m3 : Nat) (b3 : Nat), S w0 w [X, sl e1 1 (.slice a1 n c1) n xs1, sl e2 1 (.slice a2 n c2) n xs2, sl e3 1 (.slice a3 n c3) n xs3, mp Sep.encI (fun _ => True) m3 [], R, sl e1 1 (.slice (some ⟨b1, 0, none⟩) 1 1) 1 [y1], sl e2 1 (.slice (some ⟨b2, 0, none⟩) 1 1) 1 [y2], sl e3 1 (.slice (some ⟨b3, 0, none⟩) 1 1) 1 [(.map (some m3))]] → anyU P .any ops Q Sf u (k + 3) ((((l.setIfInBounds 8 true).setIfInBounds 15 true).setIfInBounds 21 true).setIfInBounds 22 true) ((((F.put (some 84) (.slice (some ⟨b1, 0, none⟩) 1 1)).put (some 91) (.slice (some ⟨b2, 0, none⟩) 1 1)).put (some 97) (.map (some m3))).put (some 98) (.slice (some ⟨b3, 0, none⟩) 1 1)) w := by
    intro w b1 b2 m3 b3 HS
    refine anyU_next rz8_15_21_22 (by simp) ?_
    refine NextU.cons h9 (fun K hK => ?_) ?_
    · refine step_appU g9 (.tmp 82) (.tmp 84) t1 p9 e1 i1 z1 1 by1 ht1 hi1 hz1 hs1 hy1 hc1 (by decide) HS 1 rfl ((At.keep (by decide) (At.keep (by decide) (At.keep (by decide) (At.keep (by decide) A1))))).ev _ 1 1 [y1] ((At.keep (by decide) (At.keep (by decide) (At.keep (by decide) (At.new (by simpa only [Act.put_size] using s8)))))).ev rfl (HS.news_slK 6 rfl) (one_val ho1) hn hb1 (fun v1 w' HS => ?_)
      refine hK.out _ _ (fun _ => hkeep _ _ (HS.nth 1 rfl)) ?_
      rw [d9]
      rw [Act.put_swap _ 98 85 _ _ (by decide), Array.setIfInBounds_comm _ _ (show 22 ≠ 9 by decide)]
      rw [Act.put_swap _ 97 85 _ _ (by decide), Array.setIfInBounds_comm _ _ (show 21 ≠ 9 by decide)]
      rw [Act.put_swap _ 91 85 _ _ (by decide), Array.setIfInBounds_comm _ _ (show 15 ≠ 9 by decide)]
      exact z8_9_15_21_22 _ b1 v1 b2 m3 b3 (HS.conv (by simp only [all, List.eraseIdx_cons_succ, List.eraseIdx_cons_zero]; ac_rfl))
    exact NextU.nil
  have z8_9_15 : ∀ (w : World) (b1 : Nat) (v1 : Value) (b2 : Nat), S w0 w [X, sl e1 1 v1 (n + 1) (xs1 ++ [y1]), sl e2 1 (.slice a2 n c2) n xs2, sl e3 1 (.slice a3 n c3) n xs3, R, sl e1 1 (.slice (some ⟨b1, 0, none⟩) 1 1) 1 [y1], sl e2 1 (.slice (some ⟨b2, 0, none⟩) 1 1) 1 [y2]] → anyU P .any ops Q Sf u (k + 4) (((l.setIfInBounds 8 true).setIfInBounds 9 true).setIfInBounds 15 true) (((F.put (some 84) (.slice (some ⟨b1, 0, none⟩) 1 1)).put (some 85) v1).put (some 91) (.slice (some ⟨b2, 0, none⟩) 1 1)) w := by
    intro w b1 v1 b2 HS
    refine anyU_next rz8_9_15 (by simp) ?_
    refine NextU.cons h16 (fun K hK => ?_) ?_
    · refine step_appU g16 (.tmp 89) (.tmp 91) t2 p16 e2 i2 z2 1 by2 ht2 hi2 hz2 hs2 hy2 hc2 (by decide) HS 2 rfl ((At.keep (by decide) (At.keep (by decide) (At.keep (by decide) A2)))).ev _ 1 1 [y2] ((At.new (by simpa only [Act.put_size] using s15))).ev rfl (HS.news_slK 6 rfl) (one_val ho2) hn hb2 (fun v2 w' HS => ?_)
      refine hK.out _ _ (fun _ => hkeep _ _ (HS.nth 1 rfl)) ?_
      rw [d16]
      exact z8_9_15_16 _ b1 v1 b2 v2 (HS.conv (by simp only [all, List.eraseIdx_cons_succ, List.eraseIdx_cons_zero]; ac_rfl))
    refine NextU.cons h21 (fun K hK => ?_) ?_
    · refine step_makeMapU g21 tm3 p21 HS (fun m3 w' HS => ?_)
      refine hK.out _ _ (fun _ => hkeep _ _ (HS.nth 1 rfl)) ?_
      rw [d21]
      exact z8_9_15_21 _ b1 v1 b2 m3 (HS.conv (by simp only [all, List.eraseIdx_cons_succ, List.eraseIdx_cons_zero]; ac_rfl))
    exact NextU.nil
  have z8_9_21 : ∀ (w : World) (b1 : Nat) (v1 : Value) (m3 : Nat), S w0 w [X, sl e1 1 v1 (n + 1) (xs1 ++ [y1]), sl e2 1 (.slice a2 n c2) n xs2, sl e3 1 (.slice a3 n c3) n xs3, mp Sep.encI (fun _ => True) m3 [], R, sl e1 1 (.slice (some ⟨b1, 0, none⟩) 1 1) 1 [y1]] → anyU P .any ops Q Sf u (k + 4) (((l.setIfInBounds 8 true).setIfInBounds 9 true).setIfInBounds 21 true) (((F.put (some 84) (.slice (some ⟨b1, 0, none⟩) 1 1)).put (some 85) v1).put (some 97) (.map (some m3))) w := by
    intro w b1 v1 m3 HS
    refine anyU_next rz8_9_21 (by simp) ?_
    refine NextU.cons h15 (fun K hK => ?_) ?_
    · refine step_buildU g15 t2 e2 _ p15 i2 z2 ht2 hi2 hz2 hs2 ((At.keep (by decide) (At.keep (by decide) (At.keep (by decide) Y2)))).ev ho2 HS (fun b2 w' HS => ?_)
      refine hK.out _ _ (fun _ => hkeep _ _ (HS.nth 1 rfl)) ?_
      rw [d15]
      rw [Act.put_swap _ 97 91 _ _ (by decide), Array.setIfInBounds_comm _ _ (show 21 ≠ 15 by decide)]
      exact z8_9_15_21 _ b1 v1 b2 m3 (HS.conv (by simp only [all, List.eraseIdx_cons_succ, List.eraseIdx_cons_zero]; ac_rfl))
    refine NextU.cons h22 (fun K hK => ?_) ?_
    · refine step_buildU g22 t3 e3 _ p22 i3 z3 ht3 hi3 hz3 hs3 ((At.new (by simpa only [Act.put_size] using s21))).ev rfl HS (fun b3 w' HS => ?_)
      refine hK.out _ _ (fun _ => hkeep _ _ (HS.nth 1 rfl)) ?_
      rw [d22]
      exact z8_9_21_22 _ b1 v1 m3 b3 (HS.conv (by simp only [all, List.eraseIdx_cons_succ, List.eraseIdx_cons_zero]; ac_rfl))
    exact NextU.nil
  have z8_15_21 : ∀ (w : World) (b1 : Nat) (b2 : Nat) (m3 : Nat), S w0 w [X, sl e1 1 (.slice a1 n c1) n xs1, sl e2 1 (.slice a2 n c2) n xs2, sl e3 1 (.slice a3 n c3) n xs3, mp Sep.encI (fun _ => True) m3 [], R, sl e1 1 (.slice (some ⟨b1, 0, none⟩) 1 1) 1 [y1], sl e2 1 (.slice (some ⟨b2, 0, none⟩) 1 1) 1 [y2]] → anyU P .any ops Q Sf u (k + 4) (((l.setIfInBounds 8 true).setIfInBounds 15 true).setIfInBounds 21 true) (((F.put (some 84) (.slice (some ⟨b1, 0, none⟩) 1 1)).put (some 91) (.slice (some ⟨b2, 0, none⟩) 1 1)).put (some 97) (.map (some m3))) w := by
    intro w b1 b2 m3 HS
    refine anyU_next rz8_15_21 (by simp) ?_
    refine NextU.cons h9 (fun K hK => ?_) ?_
    · refine step_appU g9 (.tmp 82) (.tmp 84) t1 p9 e1 i1 z1 1 by1 ht1 hi1 hz1 hs1 hy1 hc1 (by decide) HS 1 rfl ((At.keep (by decide) (At.keep (by decide) (At.keep (by decide) A1)))).ev _ 1 1 [y1] ((At.keep (by decide) (At.keep (by decide) (At.new (by simpa only [Act.put_size] using s8))))).ev rfl (HS.news_slK 6 rfl) (one_val ho1) hn hb1 (fun v1 w' HS => ?_)
      refine hK.out _ _ (fun _ => hkeep _ _ (HS.nth 1 rfl)) ?_
      rw [d9]
      rw [Act.put_swap _ 97 85 _ _ (by decide), Array.setIfInBounds_comm _ _ (show 21 ≠ 9 by decide)]
      rw [Act.put_swap _ 91 85 _ _ (by decide), Array.setIfInBounds_comm _ _ (show 15 ≠ 9 by decide)]
      exact z8_9_15_21 _ b1 v1 b2 m3 (HS.conv (by simp only [all, List.eraseIdx_cons_succ, List.eraseIdx_cons_zero]; ac_rfl))
    refine NextU.cons h22 (fun K hK => ?_) ?_
    · refine step_buildU g22 t3 e3 _ p22 i3 z3 ht3 hi3 hz3 hs3 ((At.new (by simpa only [Act.put_size] using s21))).ev rfl HS (fun b3 w' HS => ?_)
      refine hK.out _ _ (fun _ => hkeep _ _ (HS.nth 1 rfl)) ?_
      rw [d22]
      exact z8_15_21_22 _ b1 b2 m3 b3 (HS.conv (by simp only [all, List.eraseIdx_cons_succ, List.eraseIdx_cons_zero]; ac_rfl))
    exact NextU.nil
  have z8_21_22 : ∀ (w : World) (b1 : Nat) (m3 : Nat) (b3 : Nat), S w0 w [X, sl e1 1 (.slice a1 n c1) n xs1, sl e2 1 (.slice a2 n c2) n xs2, sl e3 1 (.slice a3 n c3) n xs3, mp Sep.encI (fun _ => True) m3 [], R, sl e1 1 (.slice (some ⟨b1, 0, none⟩) 1 1) 1 [y1], sl e3 1 (.slice (some ⟨b3, 0, none⟩) 1 1) 1 [(.map (some m3))]] → anyU P .any ops Q Sf u (k + 4) (((l.setIfInBounds 8 true).setIfInBounds 21 true).setIfInBounds 22 true) (((F.put (some 84) (.slice (some ⟨b1, 0, none⟩) 1 1)).put (some 97) (.map (some m3))).put (some 98) (.slice (some ⟨b3, 0, none⟩) 1 1)) w := by
    intro w b1 m3 b3 HS
    refine anyU_next rz8_21_22 (by simp) ?_
    refine NextU.cons h9 (fun K hK => ?_) ?_
    · refine step_appU g9 (.tmp 82) (.tmp 84) t1 p9 e1 i1 z1 1 by1 ht1 hi1 hz1 hs1 hy1 hc1 (by decide) HS 1 rfl ((At.keep (by decide) (At.keep (by decide) (At.keep (by decide) A1)))).ev _ 1 1 [y1] ((At.keep (by decide) (At.keep (by decide) (At.new (by simpa only [Act.put_size] using s8))))).ev rfl (HS.news_slK 6 rfl) (one_val ho1) hn hb1 (fun v1 w' HS => ?_)
      refine hK.out _ _ (fun _ => hkeep _ _ (HS.nth 1 rfl)) ?_
      rw [d9]
      rw [Act.put_swap _ 98 85 _ _ (by decide), Array.setIfInBounds_comm _ _ (show 22 ≠ 9 by decide)]
      rw [Act.put_swap _ 97 85 _ _ (by decide), Array.setIfInBounds_comm _ _ (show 21 ≠ 9 by decide)]
      exact z8_9_21_22 _ b1 v1 m3 b3 (HS.conv (by simp only [all, List.eraseIdx_cons_succ, List.eraseIdx_cons_zero]; ac_rfl))
    refine NextU.cons h15 (fun K hK => ?_) ?_
    · refine step_buildU g15 t2 e2 _ p15 i2 z2 ht2 hi2 hz2 hs2 ((At.keep (by decide) (At.keep (by decide) (At.keep (by decide) Y2)))).ev ho2 HS (fun b2 w' HS => ?_)
      refine hK.out _ _ (fun _ => hkeep _ _ (HS.nth 1 rfl)) ?_
      rw [d15]
      rw [Act.put_swap _ 98 91 _ _ (by decide), Array.setIfInBounds_comm _ _ (show 22 ≠ 15 by decide)]
      rw [Act.put_swap _ 97 91 _ _ (by decide), Array.setIfInBounds_comm _ _ (show 21 ≠ 15 by decide)]
      exact z8_15_21_22 _ b1 b2 m3 b3 (HS.conv (by simp only [all, List.eraseIdx_cons_succ, List.eraseIdx_cons_zero]; ac_rfl))
    exact NextU.nil
  have z15_21_22 : ∀ (w : World) (b2 : Nat) (m3 : Nat) (b3 : Nat), S w0 w [X, sl e1 1 (.slice a1 n c1) n xs1, sl e2 1 (.slice a2 n c2) n xs2, sl e3 1 (.slice a3 n c3) n xs3, mp Sep.encI (fun _ => True) m3 [], R, sl e2 1 (.slice (some ⟨b2, 0, none⟩) 1 1) 1 [y2], sl e3 1 (.slice (some ⟨b3, 0, none⟩) 1 1) 1 [(.map (some m3))]] → anyU P .any ops Q Sf u (k + 4) (((l.setIfInBounds 15 true).setIfInBounds 21 true).setIfInBounds 22 true) (((F.put (some 91) (.slice (some ⟨b2, 0, none⟩) 1 1)).put (some 97) (.map (some m3))).put (some 98) (.slice (some ⟨b3, 0, none⟩) 1 1)) w := by
    intro w b2 m3 b3 HS
    refine anyU_next rz15_21_22 (by simp) ?_
    refine NextU.cons h8 (fun K hK => ?_) ?_
    · refine step_buildU g8 t1 e1 _ p8 i1 z1 ht1 hi1 hz1 hs1 ((At.keep (by decide) (At.keep (by decide) (At.keep (by decide) Y1)))).ev ho1 HS (fun b1 w' HS => ?_)
      refine hK.out _ _ (fun _ => hkeep _ _ (HS.nth 1 rfl)) ?_
      rw [d8]
      rw [Act.put_swap _ 98 84 _ _ (by decide), Array.setIfInBounds_comm _ _ (show 22 ≠ 8 by decide)]
      rw [Act.put_swap _ 97 84 _ _ (by decide), Array.setIfInBounds_comm _ _ (show 21 ≠ 8 by decide)]
      rw [Act.put_swap _ 91 84 _ _ (by decide), Array.setIfInBounds_comm _ _ (show 15 ≠ 8 by decide)]
      exact z8_15_21_22 _ b1 b2 m3 b3 (HS.conv (by simp only [all, List.eraseIdx_cons_succ, List.eraseIdx_cons_zero]; ac_rfl))
    exact NextU.nil
  have z8_9 : ∀ (w : World) (b1 : Nat) (v1 : Value), S w0 w [X, sl e1 1 v1 (n + 1) (xs1 ++ [y1]), sl e2 1 (.slice a2 n c2) n xs2, sl e3 1 (.slice a3 n c3) n xs3, R, sl e1 1 (.slice (some ⟨b1, 0, none⟩) 1 1) 1 [y1]] → anyU P .any ops Q Sf u (k + 5) ((l.setIfInBounds 8 true).setIfInBounds 9 true) ((F.put (some 84) (.slice (some ⟨b1, 0, none⟩) 1 1)).put (some 85) v1) w := by
    intro w b1 v1 HS
    refine anyU_next rz8_9 (by simp) ?_
    refine NextU.cons h15 (fun K hK => ?_) ?_
    · refine step_buildU g15 t2 e2 _ p15 i2 z2 ht2 hi2 hz2 hs2 ((At.keep (by decide) (At.keep (by decide) Y2))).ev ho2 HS (fun b2 w' HS => ?_)
      refine hK.out _ _ (fun _ => hkeep _ _ (HS.nth 1 rfl)) ?_
      rw [d15]
      exact z8_9_15 _ b1 v1 b2 (HS.conv (by simp only [all, List.eraseIdx_cons_succ, List.eraseIdx_cons_zero]; ac_rfl))
    refine NextU.cons h21 (fun K hK => ?_) ?_
    · refine step_makeMapU g21 tm3 p21 HS (fun m3 w' HS => ?_)
      refine hK.out _ _ (fun _ => hkeep _ _ (HS.nth 1 rfl)) ?_
      rw [d21]
      exact z8_9_21 _ b1 v1 m3 (HS.conv (by simp only [all, List.eraseIdx_cons_succ, List.eraseIdx_cons_zero]; ac_rfl))
    exact NextU.nil
  have z8_15 : ∀ (w : World) (b1 : Nat) (b2 : Nat), S w0 w [X, sl e1 1 (.slice a1 n c1) n xs1, sl e2 1 (.slice a2 n c2) n xs2, sl e3 1 (.slice a3 n c3) n xs3, R, sl e1 1 (.slice (some ⟨b1, 0, none⟩) 1 1) 1 [y1], sl e2 1 (.slice (some ⟨b2, 0, none⟩) 1 1) 1 [y2]] → anyU P .any ops Q Sf u (k + 5) ((l.setIfInBounds 8 true).setIfInBounds 15 true) ((F.put (some 84) (.slice (some ⟨b1, 0, none⟩) 1 1)).put (some 91) (.slice (some ⟨b2, 0, none⟩) 1 1)) w := by
    intro w b1 b2 HS
    refine anyU_next rz8_15 (by simp) ?_
    refine NextU.cons h9 (fun K hK => ?_) ?_
    · refine step_appU g9 (.tmp 82) (.tmp 84) t1 p9 e1 i1 z1 1 by1 ht1 hi1 hz1 hs1 hy1 hc1 (by decide) HS 1 rfl ((At.keep (by decide) (At.keep (by decide) A1))).ev _ 1 1 [y1] ((At.keep (by decide) (At.new (by simpa only [Act.put_size] using s8)))).ev rfl (HS.news_slK 5 rfl) (one_val ho1) hn hb1 (fun v1 w' HS => ?_)
      refine hK.out _ _ (fun _ => hkeep _ _ (HS.nth 1 rfl)) ?_
      rw [d9]
      rw [Act.put_swap _ 91 85 _ _ (by decide), Array.setIfInBounds_comm _ _ (show 15 ≠ 9 by decide)]
      exact z8_9_15 _ b1 v1 b2 (HS.conv (by simp only [all, List.eraseIdx_cons_succ, List.eraseIdx_cons_zero]; ac_rfl))
    refine NextU.cons h21 (fun K hK => ?_) ?_
    · refine step_makeMapU g21 tm3 p21 HS (fun m3 w' HS => ?_)
      refine hK.out _ _ (fun _ => hkeep _ _ (HS.nth 1 rfl)) ?_
      rw [d21]
      exact z8_15_21 _ b1 b2 m3 (HS.conv (by simp only [all, List.eraseIdx_cons_succ, List.eraseIdx_cons_zero]; ac_rfl))
    exact NextU.nil
  have z8_21 : ∀ (w : World) (b1 : Nat) (m3 : Nat), S w0 w [X, sl e1 1 (.slice a1 n c1) n xs1, sl e2 1 (.slice a2 n c2) n xs2, sl e3 1 (.slice a3 n c3) n xs3, mp Sep.encI (fun _ => True) m3 [], R, sl e1 1 (.slice (some ⟨b1, 0, none⟩) 1 1) 1 [y1]] → anyU P .any ops Q Sf u (k + 5) ((l.setIfInBounds 8 true).setIfInBounds 21 true) ((F.put (some 84) (.slice (some ⟨b1, 0, none⟩) 1 1)).put (some 97) (.map (some m3))) w := by
    intro w b1 m3 HS
    refine anyU_next rz8_21 (by simp) ?_
    refine NextU.cons h9 (fun K hK => ?_) ?_
    · refine step_appU g9 (.tmp 82) (.tmp 84) t1 p9 e1 i1 z1 1 by1 ht1 hi1 hz1 hs1 hy1 hc1 (by decide) HS 1 rfl ((At.keep (by decide) (At.keep (by decide) A1))).ev _ 1 1 [y1] ((At.keep (by decide) (At.new (by simpa only [Act.put_size] using s8)))).ev rfl (HS.news_slK 6 rfl) (one_val ho1) hn hb1 (fun v1 w' HS => ?_)
      refine hK.out _ _ (fun _ => hkeep _ _ (HS.nth 1 rfl)) ?_
      rw [d9]
      rw [Act.put_swap _ 97 85 _ _ (by decide), Array.setIfInBounds_comm _ _ (show 21 ≠ 9 by decide)]
      exact z8_9_21 _ b1 v1 m3 (HS.conv (by simp only [all, List.eraseIdx_cons_succ, List.eraseIdx_cons_zero]; ac_rfl))
    refine NextU.cons h15 (fun K hK => ?_) ?_
    · refine step_buildU g15 t2 e2 _ p15 i2 z2 ht2 hi2 hz2 hs2 ((At.keep (by decide) (At.keep (by decide) Y2))).ev ho2 HS (fun b2 w' HS => ?_)
      refine hK.out _ _ (fun _ => hkeep _ _ (HS.nth 1 rfl)) ?_
      rw [d15]
      rw [Act.put_swap _ 97 91 _ _ (by decide), Array.setIfInBounds_comm _ _ (show 21 ≠ 15 by decide)]
      exact z8_15_21 _ b1 b2 m3 (HS.conv (by simp only [all, List.eraseIdx_cons_succ, List.eraseIdx_cons_zero]; ac_rfl))
    refine NextU.cons h22 (fun K hK => ?_) ?_
    · refine step_buildU g22 t3 e3 _ p22 i3 z3 ht3 hi3 hz3 hs3 ((At.new (by simpa only [Act.put_size] using s21))).ev rfl HS (fun b3 w' HS => ?_)
      refine hK.out _ _ (fun _ => hkeep _ _ (HS.nth 1 rfl)) ?_
      rw [d22]
      exact z8_21_22 _ b1 m3 b3 (HS.conv (by simp only [all, List.eraseIdx_cons_succ, List.eraseIdx_cons_zero]; ac_rfl))
    exact NextU.nil
  have z15_21 : ∀ (w : World) (b2 : Nat) (m3 : Nat), S w0 w [X, sl e1 1 (.slice a1 n c1) n xs1, sl e2 1 (.slice a2 n c2) n xs2, sl e3 1 (.slice a3 n c3) n xs3, mp Sep.encI (fun _ => True) m3 [], R, sl e2 1 (.slice (some ⟨b2, 0, none⟩) 1 1) 1 [y2]] → anyU P .any ops Q Sf u (k + 5) ((l.setIfInBounds 15 true).setIfInBounds 21 true) ((F.put (some 91) (.slice (some ⟨b2, 0, none⟩) 1 1)).put (some 97) (.map (some m3))) w := by
    intro w b2 m3 HS
    refine anyU_next rz15_21 (by simp) ?_
    refine NextU.cons h8 (fun K hK => ?_) ?_
    · refine step_buildU g8 t1 e1 _ p8 i1 z1 ht1 hi1 hz1 hs1 ((At.keep (by decide) (At.keep (by decide) Y1))).ev ho1 HS (fun b1 w' HS => ?_)
      refine hK.out _ _ (fun _ => hkeep _ _ (HS.nth 1 rfl)) ?_
      rw [d8]
      rw [Act.put_swap _ 97 84 _ _ (by decide), Array.setIfInBounds_comm _ _ (show 21 ≠ 8 by decide)]
      rw [Act.put_swap _ 91 84 _ _ (by decide), Array.setIfInBounds_comm _ _ (show 15 ≠ 8 by decide)]
      exact z8_15_21 _ b1 b2 m3 (HS.conv (by simp only [all, List.eraseIdx_cons_succ, List.eraseIdx_cons_zero]; ac_rfl))
    refine NextU.cons h22 (fun K hK => ?_) ?_
    · refine step_buildU g22 t3 e3 _ p22 i3 z3 ht3 hi3 hz3 hs3 ((At.new (by simpa only [Act.put_size] using s21))).ev rfl HS (fun b3 w' HS => ?_)
      refine hK.out _ _ (fun _ => hkeep _ _ (HS.nth 1 rfl)) ?_
      rw [d22]
      exact z15_21_22 _ b2 m3 b3 (HS.conv (by simp only [all, List.eraseIdx_cons_succ, List.eraseIdx_cons_zero]; ac_rfl))
    exact NextU.nil
  have z21_22 : ∀ (w : World) (m3 : Nat) (b3 : Nat), S w0 w [X, sl e1 1 (.slice a1 n c1) n xs1, sl e2 1 (.slice a2 n c2) n xs2, sl e3 1 (.slice a3 n c3) n xs3, mp Sep.encI (fun _ => True) m3 [], R, sl e3 1 (.slice (some ⟨b3, 0, none⟩) 1 1) 1 [(.map (some m3))]] → anyU P .any ops Q Sf u (k + 5) ((l.setIfInBounds 21 true).setIfInBounds 22 true) ((F.put (some 97) (.map (some m3))).put (some 98) (.slice (some ⟨b3, 0, none⟩) 1 1)) w := by
    intro w m3 b3 HS
    refine anyU_next rz21_22 (by simp) ?_
    refine NextU.cons h8 (fun K hK => ?_) ?_
    · refine step_buildU g8 t1 e1 _ p8 i1 z1 ht1 hi1 hz1 hs1 ((At.keep (by decide) (At.keep (by decide) Y1))).ev ho1 HS (fun b1 w' HS => ?_)
      refine hK.out _ _ (fun _ => hkeep _ _ (HS.nth 1 rfl)) ?_
      rw [d8]
      rw [Act.put_swap _ 98 84 _ _ (by decide), Array.setIfInBounds_comm _ _ (show 22 ≠ 8 by decide)]
      rw [Act.put_swap _ 97 84 _ _ (by decide), Array.setIfInBounds_comm _ _ (show 21 ≠ 8 by decide)]
      exact z8_21_22 _ b1 m3 b3 (HS.conv (by simp only [all, List.eraseIdx_cons_succ, List.eraseIdx_cons_zero]; ac_rfl))
    refine NextU.cons h15 (fun K hK => ?_) ?_
    · refine step_buildU g15 t2 e2 _ p15 i2 z2 ht2 hi2 hz2 hs2 ((At.keep (by decide) (At.keep (by decide) Y2))).ev ho2 HS (fun b2 w' HS => ?_)
      refine hK.out _ _ (fun _ => hkeep _ _ (HS.nth 1 rfl)) ?_
      rw [d15]
      rw [Act.put_swap _ 98 91 _ _ (by decide), Array.setIfInBounds_comm _ _ (show 22 ≠ 15 by decide)]
      rw [Act.put_swap _ 97 91 _ _ (by decide), Array.setIfInBounds_comm _ _ (show 21 ≠ 15 by decide)]
      exact z15_21_22 _ b2 m3 b3 (HS.conv (by simp only [all, List.eraseIdx_cons_succ, List.eraseIdx_cons_zero]; ac_rfl))
    exact NextU.nil
  have z8 : ∀ (w : World) (b1 : Nat), S w0 w [X, sl e1 1 (.slice a1 n c1) n xs1, sl e2 1 (.slice a2 n c2) n xs2, sl e3 1 (.slice a3 n c3) n xs3, R, sl e1 1 (.slice (some ⟨b1, 0, none⟩) 1 1) 1 [y1]] → anyU P .any ops Q Sf u (k + 6) (l.setIfInBounds 8 true) (F.put (some 84) (.slice (some ⟨b1, 0, none⟩) 1 1)) w := by
    intro w b1 HS
    refine anyU_next rz8 (by simp) ?_
    refine NextU.cons h9 (fun K hK => ?_) ?_
    · refine step_appU g9 (.tmp 82) (.tmp 84) t1 p9 e1 i1 z1 1 by1 ht1 hi1 hz1 hs1 hy1 hc1 (by decide) HS 1 rfl ((At.keep (by decide) A1)).ev _ 1 1 [y1] ((At.new (by simpa only [Act.put_size] using s8))).ev rfl (HS.news_slK 5 rfl) (one_val ho1) hn hb1 (fun v1 w' HS => ?_)
      refine hK.out _ _ (fun _ => hkeep _ _ (HS.nth 1 rfl)) ?_
      rw [d9]
      exact z8_9 _ b1 v1 (HS.conv (by simp only [all, List.eraseIdx_cons_succ, List.eraseIdx_cons_zero]; ac_rfl))
    refine NextU.cons h15 (fun K hK => ?_) ?_
    · refine step_buildU g15 t2 e2 _ p15 i2 z2 ht2 hi2 hz2 hs2 ((At.keep (by decide) Y2)).ev ho2 HS (fun b2 w' HS => ?_)
      refine hK.out _ _ (fun _ => hkeep _ _ (HS.nth 1 rfl)) ?_
      rw [d15]
      exact z8_15 _ b1 b2 (HS.conv (by simp only [all, List.eraseIdx_cons_succ, List.eraseIdx_cons_zero]; ac_rfl))
    refine NextU.cons h21 (fun K hK => ?_) ?_
    · refine step_makeMapU g21 tm3 p21 HS (fun m3 w' HS => ?_)
      refine hK.out _ _ (fun _ => hkeep _ _ (HS.nth 1 rfl)) ?_
      rw [d21]
      exact z8_21 _ b1 m3 (HS.conv (by simp only [all, List.eraseIdx_cons_succ, List.eraseIdx_cons_zero]; ac_rfl))
    exact NextU.nil
  have z15 : ∀ (w : World) (b2 : Nat), S w0 w [X, sl e1 1 (.slice a1 n c1) n xs1, sl e2 1 (.slice a2 n c2) n xs2, sl e3 1 (.slice a3 n c3) n xs3, R, sl e2 1 (.slice (some ⟨b2, 0, none⟩) 1 1) 1 [y2]] → anyU P .any ops Q Sf u (k + 6) (l.setIfInBounds 15 true) (F.put (some 91) (.slice (some ⟨b2, 0, none⟩) 1 1)) w := by
    intro w b2 HS
    refine anyU_next rz15 (by simp) ?_
    refine NextU.cons h8 (fun K hK => ?_) ?_
    · refine step_buildU g8 t1 e1 _ p8 i1 z1 ht1 hi1 hz1 hs1 ((At.keep (by decide) Y1)).ev ho1 HS (fun b1 w' HS => ?_)
      refine hK.out _ _ (fun _ => hkeep _ _ (HS.nth 1 rfl)) ?_
      rw [d8]
      rw [Act.put_swap _ 91 84 _ _ (by decide), Array.setIfInBounds_comm _ _ (show 15 ≠ 8 by decide)]
      exact z8_15 _ b1 b2 (HS.conv (by simp only [all, List.eraseIdx_cons_succ, List.eraseIdx_cons_zero]; ac_rfl))
    refine NextU.cons h21 (fun K hK => ?_) ?_
    · refine step_makeMapU g21 tm3 p21 HS (fun m3 w' HS => ?_)
      refine hK.out _ _ (fun _ => hkeep _ _ (HS.nth 1 rfl)) ?_
      rw [d21]
      exact z15_21 _ b2 m3 (HS.conv (by simp only [all, List.eraseIdx_cons_succ, List.eraseIdx_cons_zero]; ac_rfl))
    exact NextU.nil
  have z21 : ∀ (w : World) (m3 : Nat), S w0 w [X, sl e1 1 (.slice a1 n c1) n xs1, sl e2 1 (.slice a2 n c2) n xs2, sl e3 1 (.slice a3 n c3) n xs3, mp Sep.encI (fun _ => True) m3 [], R] → anyU P .any ops Q Sf u (k + 6) (l.setIfInBounds 21 true) (F.put (some 97) (.map (some m3))) w := by
    intro w m3 HS
    refine anyU_next rz21 (by simp) ?_
    refine NextU.cons h8 (fun K hK => ?_) ?_
    · refine step_buildU g8 t1 e1 _ p8 i1 z1 ht1 hi1 hz1 hs1 ((At.keep (by decide) Y1)).ev ho1 HS (fun b1 w' HS => ?_)
      refine hK.out _ _ (fun _ => hkeep _ _ (HS.nth 1 rfl)) ?_
      rw [d8]
      rw [Act.put_swap _ 97 84 _ _ (by decide), Array.setIfInBounds_comm _ _ (show 21 ≠ 8 by decide)]
      exact z8_21 _ b1 m3 (HS.conv (by simp only [all, List.eraseIdx_cons_succ, List.eraseIdx_cons_zero]; ac_rfl))
    refine NextU.cons h15 (fun K hK => ?_) ?_
    · refine step_buildU g15 t2 e2 _ p15 i2 z2 ht2 hi2 hz2 hs2 ((At.keep (by decide) Y2)).ev ho2 HS (fun b2 w' HS => ?_)
      refine hK.out _ _ (fun _ => hkeep _ _ (HS.nth 1 rfl)) ?_
      rw [d15]
      rw [Act.put_swap _ 97 91 _ _ (by decide), Array.setIfInBounds_comm _ _ (show 21 ≠ 15 by decide)]
      exact z15_21 _ b2 m3 (HS.conv (by simp only [all, List.eraseIdx_cons_succ, List.eraseIdx_cons_zero]; ac_rfl))
    refine NextU.cons h22 (fun K hK => ?_) ?_
    · refine step_buildU g22 t3 e3 _ p22 i3 z3 ht3 hi3 hz3 hs3 ((At.new (by simpa only [Act.put_size] using s21))).ev rfl HS (fun b3 w' HS => ?_)
      refine hK.out _ _ (fun _ => hkeep _ _ (HS.nth 1 rfl)) ?_
      rw [d22]
      exact z21_22 _ m3 b3 (HS.conv (by simp only [all, List.eraseIdx_cons_succ, List.eraseIdx_cons_zero]; ac_rfl))
    exact NextU.nil
  have z : ∀ (w : World), S w0 w [X, sl e1 1 (.slice a1 n c1) n xs1, sl e2 1 (.slice a2 n c2) n xs2, sl e3 1 (.slice a3 n c3) n xs3, R] → anyU P .any ops Q Sf u (k + 7) l F w := by
    intro w HS
    refine anyU_next rz (by simp) ?_
    refine NextU.cons h8 (fun K hK => ?_) ?_
    · refine step_buildU g8 t1 e1 _ p8 i1 z1 ht1 hi1 hz1 hs1 (Y1).ev ho1 HS (fun b1 w' HS => ?_)
      refine hK.out _ _ (fun _ => hkeep _ _ (HS.nth 1 rfl)) ?_
      rw [d8]
      exact z8 _ b1 (HS.conv (by simp only [all, List.eraseIdx_cons_succ, List.eraseIdx_cons_zero]; ac_rfl))
    refine NextU.cons h15 (fun K hK => ?_) ?_
    · refine step_buildU g15 t2 e2 _ p15 i2 z2 ht2 hi2 hz2 hs2 (Y2).ev ho2 HS (fun b2 w' HS => ?_)
      refine hK.out _ _ (fun _ => hkeep _ _ (HS.nth 1 rfl)) ?_
      rw [d15]
      exact z15 _ b2 (HS.conv (by simp only [all, List.eraseIdx_cons_succ, List.eraseIdx_cons_zero]; ac_rfl))
    refine NextU.cons h21 (fun K hK => ?_) ?_
    · refine step_makeMapU g21 tm3 p21 HS (fun m3 w' HS => ?_)
      refine hK.out _ _ (fun _ => hkeep _ _ (HS.nth 1 rfl)) ?_
      rw [d21]
      exact z21 _ m3 (HS.conv (by simp only [all, List.eraseIdx_cons_succ, List.eraseIdx_cons_zero]; ac_rfl))
    exact NextU.nil
  exact z w h
set_option linter.unusedSimpArgs false in
set_option maxHeartbeats 4000000 in
theorem region_b {P : Program} {ops : Array Oper} {Q : Exit → Act → World → Prop} {Sf : World → Prop} {u k n : Nat} {F : Act} {l : Array Bool} {w0 : World} {X R : HProp}
    (hkeep : ∀ w M, S w0 w (X :: M) → Sf w) (hn : n + 1 ≤ 1000000000000)
    (t1 e1 : TypeId) (i1 : TypeInfo) (z1 : Value) (by1 : Nat) (ht1 : P.underlying t1 = some (.slice e1)) (hi1 : P.info? e1 = some i1) (hz1 : i1.zero = some z1) (hs1 : i1.size = 1) (hy1 : i1.bytes = by1) (hc1 : z1.cells.size = 1) (hb1 : by1 ≤ 100)
    (a1 : Option Addr) (c1 : Nat) (xs1 : List Value) (y1 : Value) (ho1 : y1.oneCell' = true)
    (A1 : At F 112 (.slice a1 n c1))
    (t2 e2 : TypeId) (i2 : TypeInfo) (z2 : Value) (by2 : Nat) (ht2 : P.underlying t2 = some (.slice e2)) (hi2 : P.info? e2 = some i2) (hz2 : i2.zero = some z2) (hs2 : i2.size = 1) (hy2 : i2.bytes = by2) (hc2 : z2.cells.size = 1) (hb2 : by2 ≤ 100)
    (a2 : Option Addr) (c2 : Nat) (xs2 : List Value) (y2 : Value) (ho2 : y2.oneCell' = true)
    (A2 : At F 118 (.slice a2 n c2)) (Y2 : At F 122 y2)
    (t3 e3 : TypeId) (i3 : TypeInfo) (z3 : Value) (by3 : Nat) (ht3 : P.underlying t3 = some (.slice e3)) (hi3 : P.info? e3 = some i3) (hz3 : i3.zero = some z3) (hs3 : i3.size = 1) (hy3 : i3.bytes = by3) (hc3 : z3.cells.size = 1) (hb3 : by3 ≤ 100)
    (a3 : Option Addr) (c3 : Nat) (xs3 : List Value) (y3 : Value) (ho3 : y3.oneCell' = true)
    (A3 : At F 128 (.slice a3 n c3))
    (o7 : Oper) (h7 : ops[7]? = some o7) (g7 : o7.guard = none) (p7 : o7.op = .buildSlice t1 1 #[(0, .const y1)]) (d7 : o7.dst = some 113) (s7 : 113 < F.tmps.size)
    (o8 : Oper) (h8 : ops[8]? = some o8) (g8 : o8.guard = none) (p8 : o8.op = .call { callee := .builtin .append, args := #[.tmp 112, .tmp 113], argTypes := #[t1, t1] }) (d8 : o8.dst = some 114)
    (o17 : Oper) (h17 : ops[17]? = some o17) (g17 : o17.guard = none) (p17 : o17.op = .buildSlice t2 1 #[(0, .tmp 122)]) (d17 : o17.dst = some 123) (s17 : 123 < F.tmps.size)
    (o18 : Oper) (h18 : ops[18]? = some o18) (g18 : o18.guard = none) (p18 : o18.op = .call { callee := .builtin .append, args := #[.tmp 118, .tmp 123], argTypes := #[t2, t2] }) (d18 : o18.dst = some 124)
    (o23 : Oper) (h23 : ops[23]? = some o23) (g23 : o23.guard = none) (p23 : o23.op = .buildSlice t3 1 #[(0, .const y3)]) (d23 : o23.dst = some 129) (s23 : 129 < F.tmps.size)
    (o24 : Oper) (h24 : ops[24]? = some o24) (g24 : o24.guard = none) (p24 : o24.op = .call { callee := .builtin .append, args := #[.tmp 128, .tmp 129], argTypes := #[t3, t3] }) (d24 : o24.dst = some 130)
    (rz7_8_17_18_23 : Region.ready .any ops (((((l.setIfInBounds 7 true).setIfInBounds 8 true).setIfInBounds 17 true).setIfInBounds 18 true).setIfInBounds 23 true) = [24])
    (rz7_8_17_18 : Region.ready .any ops ((((l.setIfInBounds 7 true).setIfInBounds 8 true).setIfInBounds 17 true).setIfInBounds 18 true) = [23])
    (rz7_8_17_23 : Region.ready .any ops ((((l.setIfInBounds 7 true).setIfInBounds 8 true).setIfInBounds 17 true).setIfInBounds 23 true) = [18])
    (rz7_8_17 : Region.ready .any ops (((l.setIfInBounds 7 true).setIfInBounds 8 true).setIfInBounds 17 true) = [18, 23])
    (rz7_8_23 : Region.ready .any ops (((l.setIfInBounds 7 true).setIfInBounds 8 true).setIfInBounds 23 true) = [17])
    (rz7_17_23 : Region.ready .any ops (((l.setIfInBounds 7 true).setIfInBounds 17 true).setIfInBounds 23 true) = [8])
    (rz7_8 : Region.ready .any ops ((l.setIfInBounds 7 true).setIfInBounds 8 true) = [17, 23])
    (rz7_17 : Region.ready .any ops ((l.setIfInBounds 7 true).setIfInBounds 17 true) = [8, 23])
    (rz7_23 : Region.ready .any ops ((l.setIfInBounds 7 true).setIfInBounds 23 true) = [8, 17])
    (rz17_23 : Region.ready .any ops ((l.setIfInBounds 17 true).setIfInBounds 23 true) = [7])
    (rz7 : Region.ready .any ops (l.setIfInBounds 7 true) = [8, 17, 23])
    (rz17 : Region.ready .any ops (l.setIfInBounds 17 true) = [7, 23])
    (rz23 : Region.ready .any ops (l.setIfInBounds 23 true) = [7, 17])
    (rz : Region.ready .any ops l = [7, 17, 23])
    (hend : ∀ (w : World) (b1 : Nat) (v1 : Value) (b2 : Nat) (v2 : Value) (b3 : Nat) (v3 : Value), S w0 w [X, sl e1 1 v1 (n + 1) (xs1 ++ [y1]), sl e2 1 v2 (n + 1) (xs2 ++ [y2]), sl e3 1 v3 (n + 1) (xs3 ++ [y3]), R, sl e1 1 (.slice (some ⟨b1, 0, none⟩) 1 1) 1 [y1], sl e2 1 (.slice (some ⟨b2, 0, none⟩) 1 1) 1 [y2], sl e3 1 (.slice (some ⟨b3, 0, none⟩) 1 1) 1 [y3]] → anyU P .any ops Q Sf u (k + 0) ((((((l.setIfInBounds 7 true).setIfInBounds 8 true).setIfInBounds 17 true).setIfInBounds 18 true).setIfInBounds 23 true).setIfInBounds 24 true) ((((((F.put (some 113) (.slice (some ⟨b1, 0, none⟩) 1 1)).put (some 114) v1).put (some 123) (.slice (some ⟨b2, 0, none⟩) 1 1)).put (some 124) v2).put (some 129) (.slice (some ⟨b3, 0, none⟩) 1 1)).put (some 130) v3) w)
    (w : World) (h : S w0 w [X, sl e1 1 (.slice a1 n c1) n xs1, sl e2 1 (.slice a2 n c2) n xs2, sl e3 1 (.slice a3 n c3) n xs3, R]) : anyU P .any ops Q Sf u (k + 6) l F w := by
  have z7_8_17_18_23_24 := hend
  have z7_8_17_18_23 : ∀ (w : World) (b1 : Nat) (v1 : Value) (b2 : Nat) (v2 : Value) (b3 : Nat), S w0 w [X, sl e1 1 v1 (n + 1) (xs1 ++ [y1]), sl e2 1 v2 (n + 1) (xs2 ++ [y2]), sl e3 1 (.slice a3 n c3) n xs3, R, sl e1 1 (.slice (some ⟨b1, 0, none⟩) 1 1) 1 [y1], sl e2 1 (.slice (some ⟨b2, 0, none⟩) 1 1) 1 [y2], sl e3 1 (.slice (some ⟨b3, 0, none⟩) 1 1) 1 [y3]] → anyU P .any ops Q Sf u (k + 1) (((((l.setIfInBounds 7 true).setIfInBounds 8 true).setIfInBounds 17 true).setIfInBounds 18 true).setIfInBounds 23 true) (((((F.put (some 113) (.slice (some ⟨b1, 0, none⟩) 1 1)).put (some 114) v1).put (some 123) (.slice (some ⟨b2, 0, none⟩) 1 1)).put (some 124) v2).put (some 129) (.slice (some ⟨b3, 0, none⟩) 1 1)) w := by
    intro w b1 v1 b2 v2 b3 HS
    refine anyU_next rz7_8_17_18_23 (by simp) ?_
    refine NextU.cons h24 (fun K hK => ?_) ?_
    · refine step_appU g24 (.tmp 128) (.tmp 129) t3 p24 e3 i3 z3 1 by3 ht3 hi3 hz3 hs3 hy3 hc3 (by decide) HS 3 rfl ((At.keep (by decide) (At.keep (by decide) (At.keep (by decide) (At.keep (by decide) (At.keep (by decide) A3)))))).ev _ 1 1 [y3] ((At.new (by simpa only [Act.put_size] using s23))).ev rfl (HS.news_slK 7 rfl) (one_val ho3) hn hb3 (fun v3 w' HS => ?_)
      refine hK.out _ _ (fun _ => hkeep _ _ (HS.nth 1 rfl)) ?_
      rw [d24]
      exact z7_8_17_18_23_24 _ b1 v1 b2 v2 b3 v3 (HS.conv (by simp only [all, List.eraseIdx_cons_succ, List.eraseIdx_cons_zero]; ac_rfl))
    exact NextU.nil
  have z7_8_17_18 : ∀ (w : World) (b1 : Nat) (v1 : Value) (b2 : Nat) (v2 : Value), S w0 w [X, sl e1 1 v1 (n + 1) (xs1 ++ [y1]), sl e2 1 v2 (n + 1) (xs2 ++ [y2]), sl e3 1 (.slice a3 n c3) n xs3, R, sl e1 1 (.slice (some ⟨b1, 0, none⟩) 1 1) 1 [y1], sl e2 1 (.slice (some ⟨b2, 0, none⟩) 1 1) 1 [y2]] → anyU P .any ops Q Sf u (k + 2) ((((l.setIfInBounds 7 true).setIfInBounds 8 true).setIfInBounds 17 true).setIfInBounds 18 true) ((((F.put (some 113) (.slice (some ⟨b1, 0, none⟩) 1 1)).put (some 114) v1).put (some 123) (.slice (some ⟨b2, 0, none⟩) 1 1)).put (some 124) v2) w := by
    intro w b1 v1 b2 v2 HS
    refine anyU_next rz7_8_17_18 (by simp) ?_
    refine NextU.cons h23 (fun K hK => ?_) ?_
    · refine step_buildU g23 t3 e3 _ p23 i3 z3 ht3 hi3 hz3 hs3 rfl ho3 HS (fun b3 w' HS => ?_)
      refine hK.out _ _ (fun _ => hkeep _ _ (HS.nth 1 rfl)) ?_
      rw [d23]
      exact z7_8_17_18_23 _ b1 v1 b2 v2 b3 (HS.conv (by simp only [all, List.eraseIdx_cons_succ, List.eraseIdx_cons_zero]; ac_rfl))
    exact NextU.nil
  have z7_8_17_23 : ∀ (w : World) (b1 : Nat) (v1 : Value) (b2 : Nat) (b3 : Nat), S w0 w [X, sl e1 1 v1 (n + 1) (xs1 ++ [y1]), sl e2 1 (.slice a2 n c2) n xs2, sl e3 1 (.slice a3 n c3) n xs3, R, sl e1 1 (.slice (some ⟨b1, 0, none⟩) 1 1) 1 [y1], sl e2 1 (.slice (some ⟨b2, 0, none⟩) 1 1) 1 [y2], sl e3 1 (.slice (some ⟨b3, 0, none⟩) 1 1) 1 [y3]] → anyU P .any ops Q Sf u (k + 2) ((((l.setIfInBounds 7 true).setIfInBounds 8 true).setIfInBounds 17 true).setIfInBounds 23 true) ((((F.put (some 113) (.slice (some ⟨b1, 0, none⟩) 1 1)).put (some 114) v1).put (some 123) (.slice (some ⟨b2, 0, none⟩) 1 1)).put (some 129) (.slice (some ⟨b3, 0, none⟩) 1 1)) w := by
    intro w b1 v1 b2 b3 HS
    refine anyU_next rz7_8_17_23 (by simp) ?_
    refine NextU.cons h18 (fun K hK => ?_) ?_
    · refine step_appU g18 (.tmp 118) (.tmp 123) t2 p18 e2 i2 z2 1 by2 ht2 hi2 hz2 hs2 hy2 hc2 (by decide) HS 2 rfl ((At.keep (by decide) (At.keep (by decide) (At.keep (by decide) (At.keep (by decide) A2))))).ev _ 1 1 [y2] ((At.keep (by decide) (At.new (by simpa only [Act.put_size] using s17)))).ev rfl (HS.news_slK 6 rfl) (one_val ho2) hn hb2 (fun v2 w' HS => ?_)
      refine hK.out _ _ (fun _ => hkeep _ _ (HS.nth 1 rfl)) ?_
      rw [d18]
      rw [Act.put_swap _ 129 124 _ _ (by decide), Array.setIfInBounds_comm _ _ (show 23 ≠ 18 by decide)]
      exact z7_8_17_18_23 _ b1 v1 b2 v2 b3 (HS.conv (by simp only [all, List.eraseIdx_cons_succ, List.eraseIdx_cons_zero]; ac_rfl))
    exact NextU.nil
  have z7_8_17 : ∀ (w : World) (b1 : Nat) (v1 : Value) (b2 : Nat), S w0 w [X, sl e1 1 v1 (n + 1) (xs1 ++ [y1]), sl e2 1 (.slice a2 n c2) n xs2, sl e3 1 (.slice a3 n c3) n xs3, R, sl e1 1 (.slice (some ⟨b1, 0, none⟩) 1 1) 1 [y1], sl e2 1 (.slice (some ⟨b2, 0, none⟩) 1 1) 1 [y2]] → anyU P .any ops Q Sf u (k + 3) (((l.setIfInBounds 7 true).setIfInBounds 8 true).setIfInBounds 17 true) (((F.put (some 113) (.slice (some ⟨b1, 0, none⟩) 1 1)).put (some 114) v1).put (some 123) (.slice (some ⟨b2, 0, none⟩) 1 1)) w := by
    intro w b1 v1 b2 HS
    refine anyU_next rz7_8_17 (by simp) ?_
    refine NextU.cons h18 (fun K hK => ?_) ?_
    · refine step_appU g18 (.tmp 118) (.tmp 123) t2 p18 e2 i2 z2 1 by2 ht2 hi2 hz2 hs2 hy2 hc2 (by decide) HS 2 rfl ((At.keep (by decide) (At.keep (by decide) (At.keep (by decide) A2)))).ev _ 1 1 [y2] ((At.new (by simpa only [Act.put_size] using s17))).ev rfl (HS.news_slK 6 rfl) (one_val ho2) hn hb2 (fun v2 w' HS => ?_)
      refine hK.out _ _ (fun _ => hkeep _ _ (HS.nth 1 rfl)) ?_
      rw [d18]
      exact z7_8_17_18 _ b1 v1 b2 v2 (HS.conv (by simp only [all, List.eraseIdx_cons_succ, List.eraseIdx_cons_zero]; ac_rfl))
    refine NextU.cons h23 (fun K hK => ?_) ?_
    · refine step_buildU g23 t3 e3 _ p23 i3 z3 ht3 hi3 hz3 hs3 rfl ho3 HS (fun b3 w' HS => ?_)
      refine hK.out _ _ (fun _ => hkeep _ _ (HS.nth 1 rfl)) ?_
      rw [d23]
      exact z7_8_17_23 _ b1 v1 b2 b3 (HS.conv (by simp only [all, List.eraseIdx_cons_succ, List.eraseIdx_cons_zero]; ac_rfl))
    exact NextU.nil
  have z7_8_23 : ∀ (w : World) (b1 : Nat) (v1 : Value) (b3 : Nat), S w0 w [X, sl e1 1 v1 (n + 1) (xs1 ++ [y1]), sl e2 1 (.slice a2 n c2) n xs2, sl e3 1 (.slice a3 n c3) n xs3, R, sl e1 1 (.slice (some ⟨b1, 0, none⟩) 1 1) 1 [y1], sl e3 1 (.slice (some ⟨b3, 0, none⟩) 1 1) 1 [y3]] → anyU P .any ops Q Sf u (k + 3) (((l.setIfInBounds 7 true).setIfInBounds 8 true).setIfInBounds 23 true) (((F.put (some 113) (.slice (some ⟨b1, 0, none⟩) 1 1)).put (some 114) v1).put (some 129) (.slice (some ⟨b3, 0, none⟩) 1 1)) w := by
    intro w b1 v1 b3 HS
    refine anyU_next rz7_8_23 (by simp) ?_
    refine NextU.cons h17 (fun K hK => ?_) ?_
    · refine step_buildU g17 t2 e2 _ p17 i2 z2 ht2 hi2 hz2 hs2 ((At.keep (by decide) (At.keep (by decide) (At.keep (by decide) Y2)))).ev ho2 HS (fun b2 w' HS => ?_)
      refine hK.out _ _ (fun _ => hkeep _ _ (HS.nth 1 rfl)) ?_
      rw [d17]
      rw [Act.put_swap _ 129 123 _ _ (by decide), Array.setIfInBounds_comm _ _ (show 23 ≠ 17 by decide)]
      exact z7_8_17_23 _ b1 v1 b2 b3 (HS.conv (by simp only [all, List.eraseIdx_cons_succ, List.eraseIdx_cons_zero]; ac_rfl))
    exact NextU.nil
  have z7_17_23 : ∀ (w : World) (b1 : Nat) (b2 : Nat) (b3 : Nat), S w0 w [X, sl e1 1 (.slice a1 n c1) n xs1, sl e2 1 (.slice a2 n c2) n xs2, sl e3 1 (.slice a3 n c3) n xs3, R, sl e1 1 (.slice (some ⟨b1, 0, none⟩) 1 1) 1 [y1], sl e2 1 (.slice (some ⟨b2, 0, none⟩) 1 1) 1 [y2], sl e3 1 (.slice (some ⟨b3, 0, none⟩) 1 1) 1 [y3]] → anyU P .any ops Q Sf u (k + 3) (((l.setIfInBounds 7 true).setIfInBounds 17 true).setIfInBounds 23 true) (((F.put (some 113) (.slice (some ⟨b1, 0, none⟩) 1 1)).put (some 123) (.slice (some ⟨b2, 0, none⟩) 1 1)).put (some 129) (.slice (some ⟨b3, 0, none⟩) 1 1)) w := by
    intro w b1 b2 b3 HS
    refine anyU_next rz7_17_23 (by simp) ?_
    refine NextU.cons h8 (fun K hK => ?_) ?_
    · refine step_appU g8 (.tmp 112) (.tmp 113) t1 p8 e1 i1 z1 1 by1 ht1 hi1 hz1 hs1 hy1 hc1 (by decide) HS 1 rfl ((At.keep (by decide) (At.keep (by decide) (At.keep (by decide) A1)))).ev _ 1 1 [y1] ((At.keep (by decide) (At.keep (by decide) (At.new (by simpa only [Act.put_size] using s7))))).ev rfl (HS.news_slK 5 rfl) (one_val ho1) hn hb1 (fun v1 w' HS => ?_)
      refine hK.out _ _ (fun _ => hkeep _ _ (HS.nth 1 rfl)) ?_
      rw [d8]
      rw [Act.put_swap _ 129 114 _ _ (by decide), Array.setIfInBounds_comm _ _ (show 23 ≠ 8 by decide)]
      rw [Act.put_swap _ 123 114 _ _ (by decide), Array.setIfInBounds_comm _ _ (show 17 ≠ 8 by decide)]
      exact z7_8_17_23 _ b1 v1 b2 b3 (HS.conv (by simp only [all, List.eraseIdx_cons_succ, List.eraseIdx_cons_zero]; ac_rfl))
    exact NextU.nil
  have z7_8 : ∀ (w : World) (b1 : Nat) (v1 : Value), S w0 w [X, sl e1 1 v1 (n + 1) (xs1 ++ [y1]), sl e2 1 (.slice a2 n c2) n xs2, sl e3 1 (.slice a3 n c3) n xs3, R, sl e1 1 (.slice (some ⟨b1, 0, none⟩) 1 1) 1 [y1]] → anyU P .any ops Q Sf u (k + 4) ((l.setIfInBounds 7 true).setIfInBounds 8 true) ((F.put (some 113) (.slice (some ⟨b1, 0, none⟩) 1 1)).put (some 114) v1) w := by
    intro w b1 v1 HS
    refine anyU_next rz7_8 (by simp) ?_
    refine NextU.cons h17 (fun K hK => ?_) ?_
    · refine step_buildU g17 t2 e2 _ p17 i2 z2 ht2 hi2 hz2 hs2 ((At.keep (by decide) (At.keep (by decide) Y2))).ev ho2 HS (fun b2 w' HS => ?_)
      refine hK.out _ _ (fun _ => hkeep _ _ (HS.nth 1 rfl)) ?_
      rw [d17]
      exact z7_8_17 _ b1 v1 b2 (HS.conv (by simp only [all, List.eraseIdx_cons_succ, List.eraseIdx_cons_zero]; ac_rfl))
    refine NextU.cons h23 (fun K hK => ?_) ?_
    · refine step_buildU g23 t3 e3 _ p23 i3 z3 ht3 hi3 hz3 hs3 rfl ho3 HS (fun b3 w' HS => ?_)
      refine hK.out _ _ (fun _ => hkeep _ _ (HS.nth 1 rfl)) ?_
      rw [d23]
      exact z7_8_23 _ b1 v1 b3 (HS.conv (by simp only [all, List.eraseIdx_cons_succ, List.eraseIdx_cons_zero]; ac_rfl))
    exact NextU.nil
  have z7_17 : ∀ (w : World) (b1 : Nat) (b2 : Nat), S w0 w [X, sl e1 1 (.slice a1 n c1) n xs1, sl e2 1 (.slice a2 n c2) n xs2, sl e3 1 (.slice a3 n c3) n xs3, R, sl e1 1 (.slice (some ⟨b1, 0, none⟩) 1 1) 1 [y1], sl e2 1 (.slice (some ⟨b2, 0, none⟩) 1 1) 1 [y2]] → anyU P .any ops Q Sf u (k + 4) ((l.setIfInBounds 7 true).setIfInBounds 17 true) ((F.put (some 113) (.slice (some ⟨b1, 0, none⟩) 1 1)).put (some 123) (.slice (some ⟨b2, 0, none⟩) 1 1)) w := by
    intro w b1 b2 HS
    refine anyU_next rz7_17 (by simp) ?_
    refine NextU.cons h8 (fun K hK => ?_) ?_
    · refine step_appU g8 (.tmp 112) (.tmp 113) t1 p8 e1 i1 z1 1 by1 ht1 hi1 hz1 hs1 hy1 hc1 (by decide) HS 1 rfl ((At.keep (by decide) (At.keep (by decide) A1))).ev _ 1 1 [y1] ((At.keep (by decide) (At.new (by simpa only [Act.put_size] using s7)))).ev rfl (HS.news_slK 5 rfl) (one_val ho1) hn hb1 (fun v1 w' HS => ?_)
      refine hK.out _ _ (fun _ => hkeep _ _ (HS.nth 1 rfl)) ?_
      rw [d8]
      rw [Act.put_swap _ 123 114 _ _ (by decide), Array.setIfInBounds_comm _ _ (show 17 ≠ 8 by decide)]
      exact z7_8_17 _ b1 v1 b2 (HS.conv (by simp only [all, List.eraseIdx_cons_succ, List.eraseIdx_cons_zero]; ac_rfl))
    refine NextU.cons h23 (fun K hK => ?_) ?_
    · refine step_buildU g23 t3 e3 _ p23 i3 z3 ht3 hi3 hz3 hs3 rfl ho3 HS (fun b3 w' HS => ?_)
      refine hK.out _ _ (fun _ => hkeep _ _ (HS.nth 1 rfl)) ?_
      rw [d23]
      exact z7_17_23 _ b1 b2 b3 (HS.conv (by simp only [all, List.eraseIdx_cons_succ, List.eraseIdx_cons_zero]; ac_rfl))
    exact NextU.nil
  have z7_23 : ∀ (w : World) (b1 : Nat) (b3 : Nat), S w0 w [X, sl e1 1 (.slice a1 n c1) n xs1, sl e2 1 (.slice a2 n c2) n xs2, sl e3 1 (.slice a3 n c3) n xs3, R, sl e1 1 (.slice (some ⟨b1, 0, none⟩) 1 1) 1 [y1], sl e3 1 (.slice (some ⟨b3, 0, none⟩) 1 1) 1 [y3]] → anyU P .any ops Q Sf u (k + 4) ((l.setIfInBounds 7 true).setIfInBounds 23 true) ((F.put (some 113) (.slice (some ⟨b1, 0, none⟩) 1 1)).put (some 129) (.slice (some ⟨b3, 0, none⟩) 1 1)) w := by
    intro w b1 b3 HS
    refine anyU_next rz7_23 (by simp) ?_
    refine NextU.cons h8 (fun K hK => ?_) ?_
    · refine step_appU g8 (.tmp 112) (.tmp 113) t1 p8 e1 i1 z1 1 by1 ht1 hi1 hz1 hs1 hy1 hc1 (by decide) HS 1 rfl ((At.keep (by decide) (At.keep (by decide) A1))).ev _ 1 1 [y1] ((At.keep (by decide) (At.new (by simpa only [Act.put_size] using s7)))).ev rfl (HS.news_slK 5 rfl) (one_val ho1) hn hb1 (fun v1 w' HS => ?_)
      refine hK.out _ _ (fun _ => hkeep _ _ (HS.nth 1 rfl)) ?_
      rw [d8]
      rw [Act.put_swap _ 129 114 _ _ (by decide), Array.setIfInBounds_comm _ _ (show 23 ≠ 8 by decide)]
      exact z7_8_23 _ b1 v1 b3 (HS.conv (by simp only [all, List.eraseIdx_cons_succ, List.eraseIdx_cons_zero]; ac_rfl))
    refine NextU.cons h17 (fun K hK => ?_) ?_
    · refine step_buildU g17 t2 e2 _ p17 i2 z2 ht2 hi2 hz2 hs2 ((At.keep (by decide) (At.keep (by decide) Y2))).ev ho2 HS (fun b2 w' HS => ?_)
      refine hK.out _ _ (fun _ => hkeep _ _ (HS.nth 1 rfl)) ?_
      rw [d17]
      rw [Act.put_swap _ 129 123 _ _ (by decide), Array.setIfInBounds_comm _ _ (show 23 ≠ 17 by decide)]
      exact z7_17_23 _ b1 b2 b3 (HS.conv (by simp only [all, List.eraseIdx_cons_succ, List.eraseIdx_cons_zero]; ac_rfl))
    exact NextU.nil
  have z17_23 : ∀ (w : World) (b2 : Nat) (b3 : Nat), S w0 w [X, sl e1 1 (.slice a1 n c1) n xs1, sl e2 1 (.slice a2 n c2) n xs2, sl e3 1 (.slice a3 n c3) n xs3, R, sl e2 1 (.slice (some ⟨b2, 0, none⟩) 1 1) 1 [y2], sl e3 1 (.slice (some ⟨b3, 0, none⟩) 1 1) 1 [y3]] → anyU P .any ops Q Sf u (k + 4) ((l.setIfInBounds 17 true).setIfInBounds 23 true) ((F.put (some 123) (.slice (some ⟨b2, 0, none⟩) 1 1)).put (some 129) (.slice (some ⟨b3, 0, none⟩) 1 1)) w := by
    intro w b2 b3 HS
    refine anyU_next rz17_23 (by simp) ?_
    refine NextU.cons h7 (fun K hK => ?_) ?_
    · refine step_buildU g7 t1 e1 _ p7 i1 z1 ht1 hi1 hz1 hs1 rfl ho1 HS (fun b1 w' HS => ?_)
      refine hK.out _ _ (fun _ => hkeep _ _ (HS.nth 1 rfl)) ?_
      rw [d7]
      rw [Act.put_swap _ 129 113 _ _ (by decide), Array.setIfInBounds_comm _ _ (show 23 ≠ 7 by decide)]
      rw [Act.put_swap _ 123 113 _ _ (by decide), Array.setIfInBounds_comm _ _ (show 17 ≠ 7 by decide)]
      exact z7_17_23 _ b1 b2 b3 (HS.conv (by simp only [all, List.eraseIdx_cons_succ, List.eraseIdx_cons_zero]; ac_rfl))
    exact NextU.nil
  have z7 : ∀ (w : World) (b1 : Nat), S w0 w [X, sl e1 1 (.slice a1 n c1) n xs1, sl e2 1 (.slice a2 n c2) n xs2, sl e3 1 (.slice a3 n c3) n xs3, R, sl e1 1 (.slice (some ⟨b1, 0, none⟩) 1 1) 1 [y1]] → anyU P .any ops Q Sf u (k + 5) (l.setIfInBounds 7 true) (F.put (some 113) (.slice (some ⟨b1, 0, none⟩) 1 1)) w := by
    intro w b1 HS
    refine anyU_next rz7 (by simp) ?_
    refine NextU.cons h8 (fun K hK => ?_) ?_
    · refine step_appU g8 (.tmp 112) (.tmp 113) t1 p8 e1 i1 z1 1 by1 ht1 hi1 hz1 hs1 hy1 hc1 (by decide) HS 1 rfl ((At.keep (by decide) A1)).ev _ 1 1 [y1] ((At.new (by simpa only [Act.put_size] using s7))).ev rfl (HS.news_slK 5 rfl) (one_val ho1) hn hb1 (fun v1 w' HS => ?_)
      refine hK.out _ _ (fun _ => hkeep _ _ (HS.nth 1 rfl)) ?_
      rw [d8]
      exact z7_8 _ b1 v1 (HS.conv (by simp only [all, List.eraseIdx_cons_succ, List.eraseIdx_cons_zero]; ac_rfl))
    refine NextU.cons h17 (fun K hK => ?_) ?_
    · refine step_buildU g17 t2 e2 _ p17 i2 z2 ht2 hi2 hz2 hs2 ((At.keep (by decide) Y2)).ev ho2 HS (fun b2 w' HS => ?_)
      refine hK.out _ _ (fun _ => hkeep _ _ (HS.nth 1 rfl)) ?_
      rw [d17]
      exact z7_17 _ b1 b2 (HS.conv (by simp only [all, List.eraseIdx_cons_succ, List.eraseIdx_cons_zero]; ac_rfl))
    refine NextU.cons h23 (fun K hK => ?_) ?_
    · refine step_buildU g23 t3 e3 _ p23 i3 z3 ht3 hi3 hz3 hs3 rfl ho3 HS (fun b3 w' HS => ?_)
      refine hK.out _ _ (fun _ => hkeep _ _ (HS.nth 1 rfl)) ?_
      rw [d23]
      exact z7_23 _ b1 b3 (HS.conv (by simp only [all, List.eraseIdx_cons_succ, List.eraseIdx_cons_zero]; ac_rfl))
    exact NextU.nil
  have z17 : ∀ (w : World) (b2 : Nat), S w0 w [X, sl e1 1 (.slice a1 n c1) n xs1, sl e2 1 (.slice a2 n c2) n xs2, sl e3 1 (.slice a3 n c3) n xs3, R, sl e2 1 (.slice (some ⟨b2, 0, none⟩) 1 1) 1 [y2]] → anyU P .any ops Q Sf u (k + 5) (l.setIfInBounds 17 true) (F.put (some 123) (.slice (some ⟨b2, 0, none⟩) 1 1)) w := by
    intro w b2 HS
    refine anyU_next rz17 (by simp) ?_
    refine NextU.cons h7 (fun K hK => ?_) ?_
    · refine step_buildU g7 t1 e1 _ p7 i1 z1 ht1 hi1 hz1 hs1 rfl ho1 HS (fun b1 w' HS => ?_)
      refine hK.out _ _ (fun _ => hkeep _ _ (HS.nth 1 rfl)) ?_
      rw [d7]
      rw [Act.put_swap _ 123 113 _ _ (by decide), Array.setIfInBounds_comm _ _ (show 17 ≠ 7 by decide)]
      exact z7_17 _ b1 b2 (HS.conv (by simp only [all, List.eraseIdx_cons_succ, List.eraseIdx_cons_zero]; ac_rfl))
    refine NextU.cons h23 (fun K hK => ?_) ?_
    · refine step_buildU g23 t3 e3 _ p23 i3 z3 ht3 hi3 hz3 hs3 rfl ho3 HS (fun b3 w' HS => ?_)
      refine hK.out _ _ (fun _ => hkeep _ _ (HS.nth 1 rfl)) ?_
      rw [d23]
      exact z17_23 _ b2 b3 (HS.conv (by simp only [all, List.eraseIdx_cons_succ, List.eraseIdx_cons_zero]; ac_rfl))
    exact NextU.nil
  have z23 : ∀ (w : World) (b3 : Nat), S w0 w [X, sl e1 1 (.slice a1 n c1) n xs1, sl e2 1 (.slice a2 n c2) n xs2, sl e3 1 (.slice a3 n c3) n xs3, R, sl e3 1 (.slice (some ⟨b3, 0, none⟩) 1 1) 1 [y3]] → anyU P .any ops Q Sf u (k + 5) (l.setIfInBounds 23 true) (F.put (some 129) (.slice (some ⟨b3, 0, none⟩) 1 1)) w := by
    intro w b3 HS
    refine anyU_next rz23 (by simp) ?_
    refine NextU.cons h7 (fun K hK => ?_) ?_
    · refine step_buildU g7 t1 e1 _ p7 i1 z1 ht1 hi1 hz1 hs1 rfl ho1 HS (fun b1 w' HS => ?_)
      refine hK.out _ _ (fun _ => hkeep _ _ (HS.nth 1 rfl)) ?_
      rw [d7]
      rw [Act.put_swap _ 129 113 _ _ (by decide), Array.setIfInBounds_comm _ _ (show 23 ≠ 7 by decide)]
      exact z7_23 _ b1 b3 (HS.conv (by simp only [all, List.eraseIdx_cons_succ, List.eraseIdx_cons_zero]; ac_rfl))
    refine NextU.cons h17 (fun K hK => ?_) ?_
    · refine step_buildU g17 t2 e2 _ p17 i2 z2 ht2 hi2 hz2 hs2 ((At.keep (by decide) Y2)).ev ho2 HS (fun b2 w' HS => ?_)
      refine hK.out _ _ (fun _ => hkeep _ _ (HS.nth 1 rfl)) ?_
      rw [d17]
      rw [Act.put_swap _ 129 123 _ _ (by decide), Array.setIfInBounds_comm _ _ (show 23 ≠ 17 by decide)]
      exact z17_23 _ b2 b3 (HS.conv (by simp only [all, List.eraseIdx_cons_succ, List.eraseIdx_cons_zero]; ac_rfl))
    exact NextU.nil
  have z : ∀ (w : World), S w0 w [X, sl e1 1 (.slice a1 n c1) n xs1, sl e2 1 (.slice a2 n c2) n xs2, sl e3 1 (.slice a3 n c3) n xs3, R] → anyU P .any ops Q Sf u (k + 6) l F w := by
    intro w HS
    refine anyU_next rz (by simp) ?_
    refine NextU.cons h7 (fun K hK => ?_) ?_
    · refine step_buildU g7 t1 e1 _ p7 i1 z1 ht1 hi1 hz1 hs1 rfl ho1 HS (fun b1 w' HS => ?_)
      refine hK.out _ _ (fun _ => hkeep _ _ (HS.nth 1 rfl)) ?_
      rw [d7]
      exact z7 _ b1 (HS.conv (by simp only [all, List.eraseIdx_cons_succ, List.eraseIdx_cons_zero]; ac_rfl))
    refine NextU.cons h17 (fun K hK => ?_) ?_
    · refine step_buildU g17 t2 e2 _ p17 i2 z2 ht2 hi2 hz2 hs2 (Y2).ev ho2 HS (fun b2 w' HS => ?_)
      refine hK.out _ _ (fun _ => hkeep _ _ (HS.nth 1 rfl)) ?_
      rw [d17]
      exact z17 _ b2 (HS.conv (by simp only [all, List.eraseIdx_cons_succ, List.eraseIdx_cons_zero]; ac_rfl))
    refine NextU.cons h23 (fun K hK => ?_) ?_
    · refine step_buildU g23 t3 e3 _ p23 i3 z3 ht3 hi3 hz3 hs3 rfl ho3 HS (fun b3 w' HS => ?_)
      refine hK.out _ _ (fun _ => hkeep _ _ (HS.nth 1 rfl)) ?_
      rw [d23]
      exact z23 _ b3 (HS.conv (by simp only [all, List.eraseIdx_cons_succ, List.eraseIdx_cons_zero]; ac_rfl))
    exact NextU.nil
  exact z w h
end Go.Sep
