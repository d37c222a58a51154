/- Transactions at the same time: what comes of one that is gone, step by step; what holds of an engine at each step. No walk in sight. -/
import Derived.Test.YtmfngjclccehaaaGreatDoorZ0
import Derived.Test.YtmfngjclccehaaaGreatDoorZ1
import Derived.Lib.Slices
/- The program's table of locks: what its memory is. -/
namespace Go.Sep
open Go Go.RowKit
section plain
variable {κ ν μ : Type} [DecidableEq κ]
theorem mget_map (f : ν → μ) (D : List (κ × ν)) (k : κ) : mget (D.map fun p => (p.1, f p.2)) k = (mget D k).map f := by
 induction D with
 | nil => rfl
 | cons d D ih => simp only [List.map_cons, mget_cons, ih]; split <;> simp
theorem mput_map (f : ν → μ) (D : List (κ × ν)) (k : κ) (v : ν) : mput (D.map fun p => (p.1, f p.2)) k (f v) = (mput D k v).map fun p => (p.1, f p.2) := by
 unfold mput
 rw [mget_map]
 simp only [Option.isSome_map]
 split
 ·rw [List.map_map, List.map_map]
  apply List.map_congr_left
  intro d _
  simp only [Function.comp]
  split <;> rfl
 ·simp
theorem mdel_map (f : ν → μ) (D : List (κ × ν)) (k : κ) : mdel (D.map fun p => (p.1, f p.2)) k = (mdel D k).map fun p => (p.1, f p.2) := by
 unfold mdel
 rw [List.filter_map]
 rfl
theorem mdel_none {D : List (κ × ν)} {k : κ} (h : mget D k = none) : mdel D k = D := by
 unfold mdel
 rw [List.filter_eq_self]
 intro d hd
 have := mget_none.1 h
 simp only [decide_eq_true_eq]
 intro e
 exact this (List.mem_map.2 ⟨d, hd, e⟩)
theorem mdel_cons (d : κ × ν) (D : List (κ × ν)) (k : κ) : mdel (d :: D) k = if d.1 = k then mdel D k else d :: mdel D k := by
 unfold mdel
 rw [List.filter_cons]
 by_cases h : d.1 = k <;> simp [h]
theorem perm_out {D : List (κ × ν)} (hn : (D.map (·.1)).Nodup) {k : κ} {v : ν} (h : mget D k = some v) : D.Perm ((k, v) :: mdel D k) := by
 induction D with
 | nil => simp [mget_nil] at h
 | cons d D ih =>
  rw [List.map_cons, List.nodup_cons] at hn
  rw [mget_cons] at h
  rw [mdel_cons]
  by_cases hd : d.1 = k
  ·rw [if_pos hd] at h ⊢
   have hk : mget D k = none := mget_none.2 (by rw [← hd]; exact hn.1)
   rw [mdel_none hk]
   have : d = (k, v) := by cases d; simp_all
   rw [this]
  ·rw [if_neg hd] at h ⊢
   exact ((ih hn.2 h).cons d).trans (List.Perm.swap _ _ _)
theorem perm_put {D : List (κ × ν)} (hn : (D.map (·.1)).Nodup) (k : κ) (v : ν) : (mput D k v).Perm ((k, v) :: mdel D k) := by
 have h1 : mget (mput D k v) k = some v := by rw [mget_put]; simp
 have h2 : mdel (mput D k v) k = mdel D k := by
  unfold mput
  split
  ·unfold mdel
   rw [List.filter_map]
   have e : ((fun d : κ × ν => decide (d.1 ≠ k)) ∘ fun d => if d.1 = k then (k, v) else d) = fun d => decide (d.1 ≠ k) := by
    funext d
    simp only [Function.comp]
    by_cases h : d.1 = k <;> simp [h]
   rw [e]
   conv => rhs; rw [← List.map_id (List.filter _ D)]
   apply List.map_congr_left
   intro d hd
   have := (List.mem_filter.1 hd).2
   simp only [decide_eq_true_eq] at this
   simp [this]
  ·unfold mdel
   rw [List.filter_append]
   simp
 have h3 := perm_out (keys_put_nodup hn k v) h1
 rwa [h2] at h3
end plain
structure Tbl where
 hold : List (Int × Int)
 line : List (Int × List Int)
 wait : List (Int × Int)
def ienc (D : List (Int × Int)) : List (Int × Value) := D.map fun p => (p.1, encI p.2)
def lrow (T : TypeId) (p : Int × (Value × List Int)) : HProp := sl T 1 p.2.1 p.2.2.length (icells p.2.2)
def tabM (T b o bh bl bb : Nat) (E : List (Int × (Value × List Int))) (t : Tbl) : HProp :=
 sep (pur (E.map (fun p => (p.1, p.2.2)) = t.line)) (sep (cells b o [.map (some bh), .map (some bl), .map (some bb)]) (sep (mp encI (fun _ => True) bh (ienc t.hold))
  (sep (mp encI (fun _ => True) bb (ienc t.wait)) (sep (mp encI (fun _ => True) bl (E.map fun p => (p.1, p.2.1))) (all (E.map (lrow T)))))))
def tab0 (b o : Nat) (t : Tbl) : HProp := sep (pur (t = ⟨[], [], []⟩)) (cells b o [.map none, .map none, .map none])
def tabP (T b o : Nat) (t : Tbl) : HProp := fun h => tab0 b o t h ∨ ex (fun bh => ex fun bl => ex fun bb => ex fun E => tabM T b o bh bl bb E t) h
variable {w w0 : World} {L : List HProp} {T b o bh bl bb : Nat} {E : List (Int × (Value × List Int))} {t : Tbl}
theorem S.tab_cases (h : S w0 w (tabP T b o t :: L)) : S w0 w (tab0 b o t :: L) ∨ ∃ bh bl bb E, S w0 w (tabM T b o bh bl bb E t :: L) := by
 rcases S.or_elim h with h | h
 ·exact .inl h
 ·obtain ⟨bh, h⟩ := h.ex_elim
  obtain ⟨bl, h⟩ := h.ex_elim
  obtain ⟨bb, h⟩ := h.ex_elim
  obtain ⟨E, h⟩ := h.ex_elim
  exact .inr ⟨bh, bl, bb, E, h⟩
theorem S.tab_made (h : S w0 w (tabM T b o bh bl bb E t :: L)) : S w0 w (tabP T b o t :: L) :=
 S.mono (P := ex (fun bh => ex fun bl => ex fun bb => ex fun E => tabM T b o bh bl bb E t)) (.ex_intro bh (.ex_intro bl (.ex_intro bb (.ex_intro E h)))) fun _ p => .inr p
theorem S.tab_zero (h : S w0 w (cells b o [.map none, .map none, .map none] :: L)) : S w0 w (tabP T b o ⟨[], [], []⟩ :: L) :=
 S.mono (P := tab0 b o ⟨[], [], []⟩) (.sep_intro (.pur_intro rfl h)) fun _ p => .inl p
theorem S.tab0_cells (h : S w0 w (tab0 b o t :: L)) : t = ⟨[], [], []⟩ ∧ S w0 w (cells b o [.map none, .map none, .map none] :: L) := h.sep_elim.pur_elim
theorem S.tab_parts (h : S w0 w (tabM T b o bh bl bb E t :: L)) : E.map (fun p => (p.1, p.2.2)) = t.line ∧
  S w0 w (cells b o [.map (some bh), .map (some bl), .map (some bb)] :: mp encI (fun _ => True) bh (ienc t.hold) :: mp encI (fun _ => True) bb (ienc t.wait) :: mp encI (fun _ => True) bl (E.map fun p => (p.1, p.2.1)) :: all (E.map (lrow T)) :: L) := by
 obtain ⟨hp, h⟩ := h.sep_elim.pur_elim
 refine ⟨hp, h.conv ?_⟩
 simp only [all, sep_assoc]
theorem S.tab_join (hp : E.map (fun p => (p.1, p.2.2)) = t.line)
  (h : S w0 w (cells b o [.map (some bh), .map (some bl), .map (some bb)] :: mp encI (fun _ => True) bh (ienc t.hold) :: mp encI (fun _ => True) bb (ienc t.wait) :: mp encI (fun _ => True) bl (E.map fun p => (p.1, p.2.1)) :: all (E.map (lrow T)) :: L)) :
  S w0 w (tabM T b o bh bl bb E t :: L) := by
 refine .sep_intro (.pur_intro hp (h.conv ?_))
 simp only [all, sep_assoc]
theorem ienc_get (D : List (Int × Int)) (k : Int) : mget (ienc D) k = (mget D k).map encI := mget_map encI D k
theorem ienc_put (D : List (Int × Int)) (k v : Int) : mput (ienc D) k (encI v) = ienc (mput D k v) := mput_map encI D k v
theorem ienc_del (D : List (Int × Int)) (k : Int) : mdel (ienc D) k = ienc (mdel D k) := mdel_map encI D k
theorem S.tab_see (h : S w0 w (tabM T b o bh bl bb E t :: L)) : w.cell? ⟨b, o, none⟩ = some (.map (some bh)) ∧ w.cell? ⟨b, o + 1, none⟩ = some (.map (some bl)) ∧ w.cell? ⟨b, o + 2, none⟩ = some (.map (some bb)) ∧
  MapAt encI (fun _ => True) w bh (ienc t.hold) ∧ MapAt encI (fun _ => True) w bb (ienc t.wait) ∧ MapAt encI (fun _ => True) w bl (E.map fun p => (p.1, p.2.1)) := by
 obtain ⟨_, h⟩ := h.tab_parts
 exact ⟨h.cells_cell 0 rfl, h.cells_cell 1 rfl, h.cells_cell 2 rfl, h.swap.mapAt, h.rot3.mapAt, h.rot4.mapAt⟩
theorem S.tab_keys (h : S w0 w (tabM T b o bh bl bb E t :: L)) : (E.map (·.1)).Nodup ∧ (t.hold.map (·.1)).Nodup ∧ (t.wait.map (·.1)).Nodup := by
 obtain ⟨_, h⟩ := h.tab_parts
 refine ⟨?_, ?_, ?_⟩
 ·simpa [List.map_map, Function.comp_def] using h.rot4.nodup
 ·simpa [ienc, List.map_map, Function.comp_def] using h.swap.nodup
 ·simpa [ienc, List.map_map, Function.comp_def] using h.rot3.nodup
section ops
variable {P : Program} {kt mt e : TypeId}
theorem S.tab_hold_put (K : KeyOk P kt encI (fun _ => True)) (ht : P.underlying mt = some (.map kt e)) (h : S w0 w (tabM T b o bh bl bb E t :: L)) (k v : Int) :
  ∃ w', (Instr.mapUpdate mt (.map (some bh)) (encI k) (encI v)).run P w = .ok () w' ∧ S w0 w' (tabM T b o bh bl bb E { t with hold := mput t.hold k v } :: L) := by
 obtain ⟨hp, h⟩ := h.tab_parts
 obtain ⟨w', hr, h'⟩ := h.swap.put K ht k trivial (encI v)
 rw [ienc_put] at h'
 exact ⟨w', hr, S.tab_join hp h'.swap⟩
theorem S.tab_wait_put (K : KeyOk P kt encI (fun _ => True)) (ht : P.underlying mt = some (.map kt e)) (h : S w0 w (tabM T b o bh bl bb E t :: L)) (k v : Int) :
  ∃ w', (Instr.mapUpdate mt (.map (some bb)) (encI k) (encI v)).run P w = .ok () w' ∧ S w0 w' (tabM T b o bh bl bb E { t with wait := mput t.wait k v } :: L) := by
 obtain ⟨hp, h⟩ := h.tab_parts
 obtain ⟨w', hr, h'⟩ := h.rot3.put K ht k trivial (encI v)
 rw [ienc_put] at h'
 exact ⟨w', hr, S.tab_join (t := { t with wait := mput t.wait k v }) hp h'.rot3.rot3⟩
theorem S.tab_hold_del (K : KeyOk P kt encI (fun _ => True)) {ty : TypeId} (ht : P.underlying mt = some (.map kt e)) (h : S w0 w (tabM T b o bh bl bb E t :: L)) (k : Int) :
  ∃ w', (Builtin.delete_ #[mt, kt] ty #[.map (some bh), encI k]).run P w = .ok (.tuple #[]) w' ∧ S w0 w' (tabM T b o bh bl bb E { t with hold := mdel t.hold k } :: L) := by
 obtain ⟨hp, h⟩ := h.tab_parts
 obtain ⟨w', hr, h'⟩ := h.swap.del K (ty := ty) ht k trivial
 rw [ienc_del] at h'
 exact ⟨w', hr, S.tab_join hp h'.swap⟩
theorem S.tab_wait_del (K : KeyOk P kt encI (fun _ => True)) {ty : TypeId} (ht : P.underlying mt = some (.map kt e)) (h : S w0 w (tabM T b o bh bl bb E t :: L)) (k : Int) :
  ∃ w', (Builtin.delete_ #[mt, kt] ty #[.map (some bb), encI k]).run P w = .ok (.tuple #[]) w' ∧ S w0 w' (tabM T b o bh bl bb E { t with wait := mdel t.wait k } :: L) := by
 obtain ⟨hp, h⟩ := h.tab_parts
 obtain ⟨w', hr, h'⟩ := h.rot3.del K (ty := ty) ht k trivial
 rw [ienc_del] at h'
 exact ⟨w', hr, S.tab_join (t := { t with wait := mdel t.wait k }) hp h'.rot3.rot3⟩
def lineOf (E : List (Int × (Value × List Int))) (k : Int) : Value × List Int := (mget E k).getD (.slice none 0 0, [])
def tabX (T b o bh bl bb : Nat) (E : List (Int × (Value × List Int))) (k : Int) (t : Tbl) : HProp :=
 sep (pur (E.map (fun p => (p.1, p.2.2)) = t.line)) (sep (cells b o [.map (some bh), .map (some bl), .map (some bb)]) (sep (mp encI (fun _ => True) bh (ienc t.hold))
  (sep (mp encI (fun _ => True) bb (ienc t.wait)) (sep (mp encI (fun _ => True) bl (E.map fun p => (p.1, p.2.1))) (all ((mdel E k).map (lrow T)))))))
theorem S.tab_line (h : S w0 w (tabM T b o bh bl bb E t :: L)) (k : Int) : S w0 w (sl T 1 (lineOf E k).1 (lineOf E k).2.length (icells (lineOf E k).2) :: tabX T b o bh bl bb E k t :: L) := by
 have hk := h.tab_keys.1
 obtain ⟨hp, h⟩ := h.tab_parts
 have key : S w0 w (sl T 1 (lineOf E k).1 (lineOf E k).2.length (icells (lineOf E k).2) :: cells b o [.map (some bh), .map (some bl), .map (some bb)] :: mp encI (fun _ => True) bh (ienc t.hold) :: mp encI (fun _ => True) bb (ienc t.wait) :: mp encI (fun _ => True) bl (E.map fun p => (p.1, p.2.1)) :: all ((mdel E k).map (lrow T)) :: L) := by
  cases hg : mget E k with
  | none =>
   unfold lineOf
   rw [hg, mdel_none hg]
   exact h.sl_nil
  | some x =>
   unfold lineOf
   rw [hg]
   have hq := (perm_out hk hg).map (lrow T)
   refine h.conv ?_
   simp only [all]
   rw [all_perm hq]
   simp only [List.map_cons, all, lrow, Option.getD_some]
   rw [sep_left_comm (sl _ _ _ _ _), sep_left_comm (sl _ _ _ _ _), sep_left_comm (sl _ _ _ _ _), sep_left_comm (sl _ _ _ _ _), sep_assoc]
 refine S.swap (.sep_intro (.pur_intro hp ?_))
 refine key.conv ?_
 simp only [all, sep_assoc]
 rw [sep_left_comm (sl _ _ _ _ _), sep_left_comm (sl _ _ _ _ _), sep_left_comm (sl _ _ _ _ _), sep_left_comm (sl _ _ _ _ _), sep_left_comm (sl _ _ _ _ _)]
theorem S.tabX_parts {k : Int} (h : S w0 w (tabX T b o bh bl bb E k t :: L)) : E.map (fun p => (p.1, p.2.2)) = t.line ∧
  S w0 w (cells b o [.map (some bh), .map (some bl), .map (some bb)] :: mp encI (fun _ => True) bh (ienc t.hold) :: mp encI (fun _ => True) bb (ienc t.wait) :: mp encI (fun _ => True) bl (E.map fun p => (p.1, p.2.1)) :: all ((mdel E k).map (lrow T)) :: L) := by
 obtain ⟨hp, h⟩ := h.sep_elim.pur_elim
 refine ⟨hp, h.conv ?_⟩
 simp only [all, sep_assoc]
theorem S.tabX_see {k : Int} (h : S w0 w (tabX T b o bh bl bb E k t :: L)) : w.cell? ⟨b, o, none⟩ = some (.map (some bh)) ∧ w.cell? ⟨b, o + 1, none⟩ = some (.map (some bl)) ∧ w.cell? ⟨b, o + 2, none⟩ = some (.map (some bb)) ∧
  MapAt encI (fun _ => True) w bh (ienc t.hold) ∧ MapAt encI (fun _ => True) w bb (ienc t.wait) ∧ MapAt encI (fun _ => True) w bl (E.map fun p => (p.1, p.2.1)) := by
 obtain ⟨_, h⟩ := h.tabX_parts
 exact ⟨h.cells_cell 0 rfl, h.cells_cell 1 rfl, h.cells_cell 2 rfl, h.swap.mapAt, h.rot3.mapAt, h.rot4.mapAt⟩
theorem S.tabX_put (K : KeyOk P kt encI (fun _ => True)) (ht : P.underlying mt = some (.map kt e)) {k : Int} {v : Value} {l : List Int} (h : S w0 w (sl T 1 v l.length (icells l) :: tabX T b o bh bl bb E k t :: L)) :
  ∃ w', (Instr.mapUpdate mt (.map (some bl)) (encI k) v).run P w = .ok () w' ∧ S w0 w' (tabM T b o bh bl bb (mput E k (v, l)) { t with line := mput t.line k l } :: L) := by
 obtain ⟨hp, h⟩ := h.swap.tabX_parts
 have hn : (E.map (·.1)).Nodup := by simpa [List.map_map, Function.comp_def] using h.rot4.nodup
 obtain ⟨w', hr, h'⟩ := h.rot4.put K ht k trivial v
 have hm : mput (E.map fun p => (p.1, p.2.1)) k v = (mput E k (v, l)).map fun p => (p.1, p.2.1) := mput_map (fun x : Value × List Int => x.1) E k (v, l)
 have hm2 : (mput E k (v, l)).map (fun p => (p.1, p.2.2)) = mput t.line k l := by rw [← hp]; exact (mput_map (fun x : Value × List Int => x.2) E k (v, l)).symm
 rw [hm] at h'
 refine ⟨w', hr, S.tab_join (t := { t with line := mput t.line k l }) hm2 ?_⟩
 refine h'.conv ?_
 have hq := (perm_put hn k (v, l)).map (lrow T)
 simp only [all]
 rw [all_perm hq]
 simp only [List.map_cons, all, lrow]
 rw [sep_left_comm (mp _ _ bl _) (cells _ _ _), sep_left_comm (mp _ _ bl _) (mp _ _ bh _), sep_left_comm (mp _ _ bl _) (mp _ _ bb _), sep_assoc]
 rw [sep_left_comm (all ((mdel E k).map _))]
end ops
end Go.Sep
/- Tables of locks as queues: of each key who holds it, and behind that one who waits, in line. No program in sight. -/
namespace Go.Sep
open Go Go.RowKit
structure TabR (t : Tbl) (Q : Int → List Int) : Prop where
 hold : ∀ k, mget t.hold k = (Q k).head?
 line : ∀ k, (mget t.line k).getD [] = (Q k).tail
 wait : ∀ x k, mget t.wait x = some k ↔ x ∈ (Q k).tail
 nod : ∀ k, (Q k).Nodup
theorem TabR.start : TabR ⟨[], [], []⟩ (fun _ => []) := ⟨fun _ => rfl, fun _ => rfl, fun x k => by simp [mget_nil], fun _ => List.nodup_nil⟩
variable {t : Tbl} {Q : Int → List Int}
theorem TabR.one (h : TabR t Q) {x k k' : Int} (h1 : x ∈ (Q k).tail) (h2 : x ∈ (Q k').tail) : k = k' := by
 have e1 := (h.wait x k).2 h1
 have e2 := (h.wait x k').2 h2
 rw [e1] at e2; exact Option.some.inj e2
theorem TabR.none_wait (h : TabR t Q) {x : Int} : mget t.wait x = none ↔ ∀ k, x ∉ (Q k).tail := by
 constructor
 ·intro e k hk; rw [(h.wait x k).2 hk] at e; cases e
 ·intro hn
  cases hw : mget t.wait x with
  | none => rfl
  | some k => exact absurd ((h.wait x k).1 hw) (hn k)
def lineAt (t : Tbl) (k : Int) : List Int := (mget t.line k).getD []
def strike (l : List Int) (tx : Int) : List Int := l.filter fun x => !(x == tx)
theorem strike_mem {l : List Int} {x tx : Int} : x ∈ strike l tx ↔ x ∈ l ∧ x ≠ tx := by simp [strike]
theorem strike_none {l : List Int} {tx : Int} (h : ∀ x ∈ l, x ≠ tx) : strike l tx = l := by
 unfold strike; rw [List.filter_eq_self]; intro x hx; simp [h x hx]
theorem strike_snoc (l : List Int) (p tx : Int) : strike (l ++ [p]) tx = if p = tx then strike l tx else strike l tx ++ [p] := by
 unfold strike; rw [List.filter_append]; by_cases h : p = tx <;> simp [h]
theorem strike_cons (l : List Int) (p tx : Int) : strike (p :: l) tx = if p = tx then strike l tx else p :: strike l tx := by
 unfold strike; rw [List.filter_cons]; by_cases h : p = tx <;> simp [h]
theorem strike_le (l : List Int) (tx : Int) : (strike l tx).length ≤ l.length := List.length_filter_le _ _
def strikeT (t : Tbl) (tx : Int) : Tbl := match mget t.wait tx with
 | none => t
 | some k => { t with wait := mdel t.wait tx, line := mput t.line k (strike (lineAt t k) tx) }
def strikeQ (Q : Int → List Int) (tx k : Int) : List Int := match Q k with | [] => [] | h :: l => h :: strike l tx
theorem strikeQ_tail (Q : Int → List Int) (tx k : Int) : (strikeQ Q tx k).tail = strike (Q k).tail tx := by unfold strikeQ; cases Q k <;> rfl
theorem strikeQ_head (Q : Int → List Int) (tx k : Int) : (strikeQ Q tx k).head? = (Q k).head? := by unfold strikeQ; cases Q k <;> rfl
theorem TabR.struck (h : TabR t Q) (tx : Int) : TabR (strikeT t tx) (strikeQ Q tx) := by
 have hnod : ∀ k, (strikeQ Q tx k).Nodup := by
  intro k
  have := h.nod k
  unfold strikeQ
  cases hq : Q k with
  | nil => simp
  | cons a l =>
   rw [hq, List.nodup_cons] at this
   rw [List.nodup_cons]
   exact ⟨fun hm => this.1 (strike_mem.1 hm).1, this.2.sublist List.filter_sublist⟩
 unfold strikeT
 cases hw : mget t.wait tx with
 | none =>
  have hn := h.none_wait.1 hw
  have hs : ∀ k, strikeQ Q tx k = Q k := by
   intro k
   unfold strikeQ
   have := hn k
   cases hq : Q k with
   | nil => rfl
   | cons a l =>
    rw [hq] at this
    simp only [List.tail_cons] at this
    simp only
    rw [strike_none]
    intro x hx e; subst e; exact this hx
  exact ⟨fun k => by rw [hs]; exact h.hold k, fun k => by rw [hs]; exact h.line k, fun x k => by rw [hs]; exact h.wait x k, fun k => by rw [hs]; exact h.nod k⟩
 | some k0 =>
  have hk0 := (h.wait tx k0).1 hw
  refine ⟨fun k => by rw [strikeQ_head]; exact h.hold k, fun k => ?_, fun x k => ?_, hnod⟩
  ·rw [strikeQ_tail]
   show (mget (mput t.line k0 _) k).getD [] = _
   rw [mget_put]
   by_cases e : k = k0
   ·subst e; rw [if_pos rfl, ← h.line k]; rfl
   ·rw [if_neg e, h.line k]
    rw [strike_none]
    intro x hx ex; subst ex; exact e (h.one hx hk0)
  ·rw [strikeQ_tail, strike_mem]
   show mget (mdel t.wait tx) x = some k ↔ _
   rw [mget_del]
   by_cases e : x = tx
   ·simp [e]
   ·rw [if_neg e, h.wait x k]; simp [e]
def dropStep (s : Tbl × List (Int × Int)) (k : Int) : Tbl × List (Int × Int) := match lineAt s.1 k with
 | [] => ({ s.1 with hold := mdel s.1.hold k }, s.2)
 | x :: l => ({ hold := mput s.1.hold k x, line := mput s.1.line k l, wait := mdel s.1.wait x }, s.2 ++ [(k, x)])
def holders (t : Tbl) (tx : Int) : List Int := (t.hold.filter fun p => decide (p.2 = tx)).map (·.1)
def sortI (l : List Int) : List Int := l.mergeSort (fun a b => decide (a ≤ b))
def tbDrop (t : Tbl) (tx : Int) : Tbl × List (Int × Int) := (sortI (holders (strikeT t tx) tx)).foldl dropStep (strikeT t tx, [])
theorem sortI_perm (l : List Int) : (sortI l).Perm l := List.mergeSort_perm _ _
theorem sortI_sorted (l : List Int) : (sortI l).Pairwise (· ≤ ·) := by
 have := List.pairwise_mergeSort (le := fun a b : Int => decide (a ≤ b)) (fun a b c h1 h2 => by simp at *; omega) (fun a b => by simp; omega) l
 exact this.imp (fun h => by simpa using h)
theorem sorted_unique : ∀ {l m : List Int}, l.Perm m → l.Pairwise (· ≤ ·) → m.Pairwise (· ≤ ·) → l = m
 | [], m, hp, _, _ => (hp.nil_eq)
 | a :: l, [], hp, _, _ => by simp at hp
 | a :: l, b :: m, hp, h1, h2 => by
  have hab : a = b := by
   rw [List.pairwise_cons] at h1 h2
   have ha : a ∈ b :: m := hp.subset (by simp)
   have hb : b ∈ a :: l := hp.symm.subset (by simp)
   rcases List.mem_cons.1 ha with e | ha
   ·exact e
   rcases List.mem_cons.1 hb with e | hb
   ·exact e.symm
   have := h1.1 b hb
   have := h2.1 a ha
   omega
  subst hab
  rw [sorted_unique (hp.cons_inv) (List.pairwise_cons.1 h1).2 (List.pairwise_cons.1 h2).2]
theorem sortI_of {l m : List Int} (hp : l.Perm m) (hs : l.Pairwise (· ≤ ·)) : l = sortI m := sorted_unique (hp.trans (sortI_perm m).symm) hs (sortI_sorted m)
theorem sortI_mem {l : List Int} {x : Int} : x ∈ sortI l ↔ x ∈ l := (sortI_perm l).mem_iff
theorem sortI_len (l : List Int) : (sortI l).length = l.length := (sortI_perm l).length_eq
def firstL (k : Int) : List Int → List (Int × Int)
 | [] => []
 | x :: _ => [(k, x)]
def updQ (Q : Int → List Int) (k : Int) (l : List Int) : Int → List Int := fun j => if j = k then l else Q j
theorem TabR.step (h : TabR t Q) {k tx : Int} {l : List Int} (hq : Q k = tx :: l) (out : List (Int × Int)) :
  TabR (dropStep (t, out) k).1 (updQ Q k l) ∧ (dropStep (t, out) k).2 = out ++ firstL k l := by
 have hl : lineAt t k = l := by unfold lineAt; rw [h.line k, hq]; rfl
 have hnd := h.nod k
 rw [hq, List.nodup_cons] at hnd
 unfold dropStep
 simp only [hl]
 cases l with
 | nil =>
  refine ⟨⟨fun j => ?_, fun j => ?_, fun x j => ?_, fun j => ?_⟩, by simp [firstL]⟩
  ·show mget (mdel t.hold k) j = _
   rw [mget_del]; unfold updQ
   by_cases e : j = k
   ·simp [e]
   ·rw [if_neg e, if_neg e]; exact h.hold j
  ·show (mget t.line j).getD [] = _
   unfold updQ
   by_cases e : j = k
   ·subst e; rw [if_pos rfl]; exact hl
   ·rw [if_neg e]; exact h.line j
  ·show mget t.wait x = some j ↔ _
   unfold updQ
   by_cases e : j = k
   ·subst e; rw [if_pos rfl, h.wait x j, hq]; simp
   ·rw [if_neg e]; exact h.wait x j
  ·unfold updQ
   by_cases e : j = k
   ·simp [e]
   ·rw [if_neg e]; exact h.nod j
 | cons x l =>
  rw [List.nodup_cons] at hnd
  have hx : x ∈ (Q k).tail := by rw [hq]; simp
  refine ⟨⟨fun j => ?_, fun j => ?_, fun y j => ?_, fun j => ?_⟩, rfl⟩
  ·show mget (mput t.hold k x) j = _
   rw [mget_put]; unfold updQ
   by_cases e : j = k
   ·simp [e]
   ·rw [if_neg e, if_neg e]; exact h.hold j
  ·show (mget (mput t.line k l) j).getD [] = _
   rw [mget_put]; unfold updQ
   by_cases e : j = k
   ·simp [e]
   ·rw [if_neg e, if_neg e]; exact h.line j
  ·show mget (mdel t.wait x) y = some j ↔ _
   rw [mget_del]; unfold updQ
   by_cases ey : y = x
   ·subst ey
    rw [if_pos rfl]
    by_cases e : j = k
    ·subst e; rw [if_pos rfl]; simp [hnd.2.1]
    ·rw [if_neg e]
     simp only [reduceCtorEq, false_iff]
     intro hy; exact e (h.one hy hx)
   ·rw [if_neg ey]
    by_cases e : j = k
    ·subst e; rw [if_pos rfl, h.wait y j, hq]; simp [ey]
    ·rw [if_neg e]; exact h.wait y j
  ·unfold updQ
   by_cases e : j = k
   ·subst e; rw [if_pos rfl, List.nodup_cons]; exact hnd.2
   ·rw [if_neg e]; exact h.nod j
def nexts (Q : Int → List Int) (ks : List Int) : List (Int × Int) := ks.flatMap fun k => firstL k (Q k).tail
theorem TabR.steps {tx : Int} : ∀ (ks : List Int) {t : Tbl} {Q : Int → List Int} (out : List (Int × Int)), TabR t Q → ks.Nodup → (∀ k ∈ ks, (Q k).head? = some tx) →
  TabR (ks.foldl dropStep (t, out)).1 (fun j => if j ∈ ks then (Q j).tail else Q j) ∧ (ks.foldl dropStep (t, out)).2 = out ++ nexts Q ks
 | [], t, Q, out, h, _, _ => by simpa [nexts] using h
 | k :: ks, t, Q, out, h, hn, hk => by
  obtain ⟨l, hq⟩ : ∃ l, Q k = tx :: l := by
   have := hk k (by simp)
   cases hQ : Q k with
   | nil => rw [hQ] at this; simp at this
   | cons a l => rw [hQ] at this; simp at this; exact ⟨l, by rw [this]⟩
  obtain ⟨h1, h2⟩ := h.step hq out
  rw [List.nodup_cons] at hn
  have hne : ∀ j ∈ ks, j ≠ k := fun j hj e => hn.1 (by rw [← e]; exact hj)
  obtain ⟨h3, h4⟩ := TabR.steps ks (dropStep (t, out) k).2 h1 hn.2 (fun j hj => by unfold updQ; rw [if_neg (hne j hj)]; exact hk j (by simp [hj]))
  have e1 : ((dropStep (t, out) k).1, (dropStep (t, out) k).2) = dropStep (t, out) k := rfl
  rw [e1] at h3 h4
  refine ⟨?_, ?_⟩
  ·rw [List.foldl_cons]
   have e2 : (fun j => if j ∈ ks then (updQ Q k l j).tail else updQ Q k l j) = fun j => if j ∈ k :: ks then (Q j).tail else Q j := by
    funext j
    unfold updQ
    by_cases e : j = k
    ·subst e; simp [hn.1, hq]
    ·simp [e]
   rw [← e2]; exact h3
  ·rw [List.foldl_cons, h4, h2, List.append_assoc]
   congr 1
   unfold nexts
   rw [List.flatMap_cons, hq]
   congr 1
   unfold List.flatMap
   congr 1
   apply List.map_congr_left
   intro j hj
   unfold updQ
   rw [if_neg (hne j hj)]
theorem holders_mem {tx k : Int} (hn : (t.hold.map (·.1)).Nodup) : k ∈ holders t tx ↔ mget t.hold k = some tx := by
 unfold holders
 simp only [List.mem_map, List.mem_filter, decide_eq_true_eq]
 constructor
 ·rintro ⟨⟨a, b⟩, ⟨h1, h2⟩, rfl⟩
  simp only at h2
  subst h2
  exact mget_mem hn h1
 ·intro h; exact ⟨(k, tx), ⟨mget_some h, rfl⟩, rfl⟩
theorem holders_nodup {tx : Int} (hn : (t.hold.map (·.1)).Nodup) : (holders t tx).Nodup := hn.sublist (List.Sublist.map _ List.filter_sublist)
theorem strikeT_hold (t : Tbl) (tx : Int) : (strikeT t tx).hold = t.hold := by unfold strikeT; cases mget t.wait tx <;> rfl
theorem strikeQ_at (Q : Int → List Int) (tx k : Int) : (if (Q k).head? = some tx then (strikeQ Q tx k).tail else strikeQ Q tx k) = strike (Q k) tx := by
 unfold strikeQ
 cases hq : Q k with
 | nil => simp [strike]
 | cons a l =>
  rw [strike_cons]
  by_cases e : a = tx
  ·subst e; simp
  ·simp [e]
theorem TabR.dropped (h : TabR t Q) (hn : (t.hold.map (·.1)).Nodup) (tx : Int) : TabR (tbDrop t tx).1 (fun k => strike (Q k) tx) ∧
  (tbDrop t tx).2 = nexts (strikeQ Q tx) (sortI (holders t tx)) := by
 have h1 := h.struck tx
 have hn1 : ((strikeT t tx).hold.map (·.1)).Nodup := by rw [strikeT_hold]; exact hn
 have hmem : ∀ k, k ∈ sortI (holders (strikeT t tx) tx) ↔ (Q k).head? = some tx := by
  intro k; rw [sortI_mem, holders_mem hn1, strikeT_hold, h.hold k]
 have hnd : (sortI (holders (strikeT t tx) tx)).Nodup := (sortI_perm _).nodup_iff.2 (holders_nodup hn1)
 obtain ⟨h2, h3⟩ := TabR.steps (tx := tx) (sortI (holders (strikeT t tx) tx)) [] h1 hnd (fun k hk => by rw [strikeQ_head]; exact (hmem k).1 hk)
 have e : (fun j => if j ∈ sortI (holders (strikeT t tx) tx) then (strikeQ Q tx j).tail else strikeQ Q tx j) = fun k => strike (Q k) tx := by
  funext j
  rw [← strikeQ_at Q tx j]
  by_cases hj : (Q j).head? = some tx
  ·rw [if_pos ((hmem j).2 hj), if_pos hj]
  ·rw [if_neg (fun x => hj ((hmem j).1 x)), if_neg hj]
 rw [e] at h2
 refine ⟨h2, ?_⟩
 have : holders (strikeT t tx) tx = holders t tx := by unfold holders; rw [strikeT_hold]
 rw [this] at h3
 show (List.foldl dropStep (strikeT t tx, []) (sortI (holders (strikeT t tx) tx))).2 = _
 rw [this, h3]; rfl
end Go.Sep
/- Nobody waits for ever: the plain law of tables of locks. No program in sight. -/
namespace Go.Sep
open Go Go.RowKit
def chase (t : Tbl) (tx : Int) : Nat → Int → Option Bool
 | 0, _ => none
 | n + 1, x => if x = tx then some true else match mget t.wait x with
  | none => some false
  | some k => chase t tx n ((mget t.hold k).getD 0)
def Ranked (t : Tbl) (r : Int → Nat) : Prop := ∀ x k, mget t.wait x = some k → r ((mget t.hold k).getD 0) < r x
theorem chase_ends {t : Tbl} {r : Int → Nat} (h : Ranked t r) (tx : Int) : ∀ (n : Nat) (x : Int), r x < n → ∃ c, chase t tx n x = some c
 | 0, _, hx => by omega
 | n + 1, x, hx => by
  unfold chase
  split
  ·exact ⟨_, rfl⟩
  ·cases hw : mget t.wait x with
   | none => exact ⟨_, rfl⟩
   | some k => exact chase_ends h tx n _ (by have := h x k hw; omega)
theorem chase_up {t : Tbl} {tx : Int} {c : Bool} : ∀ (n m : Nat) (x : Int), n ≤ m → chase t tx n x = some c → chase t tx m x = some c
 | 0, _, _, _, h => by simp [chase] at h
 | n + 1, 0, _, hm, _ => by omega
 | n + 1, m + 1, x, hm, h => by
  unfold chase at h ⊢
  split
  ·rename_i e; rw [if_pos e] at h; exact h
  ·rename_i e
   rw [if_neg e] at h
   cases hw : mget t.wait x with
   | none => rw [hw] at h; exact h
   | some k => rw [hw] at h; exact chase_up n m _ (by omega) h
theorem chase_one {t : Tbl} {tx x : Int} {c d : Bool} {n m : Nat} (h1 : chase t tx n x = some c) (h2 : chase t tx m x = some d) : c = d := by
 have e1 := chase_up n (max n m) x (by omega) h1
 have e2 := chase_up m (max n m) x (by omega) h2
 rw [e1] at e2; exact Option.some.inj e2
def Reach (t : Tbl) (tx x : Int) : Prop := ∃ n, chase t tx n x = some true
theorem Reach.here (t : Tbl) (tx : Int) : Reach t tx tx := ⟨1, by simp [chase]⟩
theorem Reach.next {t : Tbl} {tx x k : Int} (hx : x ≠ tx) (hw : mget t.wait x = some k) : Reach t tx x ↔ Reach t tx ((mget t.hold k).getD 0) := by
 constructor
 ·rintro ⟨n, h⟩
  cases n with
  | zero => simp [chase] at h
  | succ n => unfold chase at h; rw [if_neg hx, hw] at h; exact ⟨n, h⟩
 ·rintro ⟨n, h⟩; exact ⟨n + 1, by unfold chase; rw [if_neg hx, hw]; exact h⟩
def tbAsk (t : Tbl) (tx key : Int) (c : Bool) : Tbl × Bool × Int :=
 if key < 0 ∨ 10 ≤ key ∨ tx < 1 then (t, false, 2) else if (mget t.wait tx).isSome then (t, false, 6) else match mget t.hold key with
 | none => ({ t with hold := mput t.hold key tx }, true, 0)
 | some h => if h = tx then (t, true, 0) else if c then (t, false, 11) else ({ t with wait := mput t.wait tx key, line := mput t.line key (lineAt t key ++ [tx]) }, false, 0)
def Rk (Q : Int → List Int) (r : Int → Nat) : Prop := ∀ k, ∀ x ∈ (Q k).tail, r ((Q k).headD 0) < r x
theorem Rk.ranked {t : Tbl} {Q : Int → List Int} {r : Int → Nat} (h : TabR t Q) (hr : Rk Q r) : Ranked t r := by
 intro x k hw
 have := hr k x ((h.wait x k).1 hw)
 rw [h.hold k]
 cases hq : Q k with
 | nil => rw [hq] at this; simpa using this
 | cons a l => rw [hq] at this; simpa using this
def askQ (Q : Int → List Int) (tx key : Int) : Int → List Int := updQ Q key (Q key ++ [tx])
theorem TabR.ask_free {t : Tbl} {Q : Int → List Int} (h : TabR t Q) {tx key : Int} (hh : mget t.hold key = none) : TabR { t with hold := mput t.hold key tx } (askQ Q tx key) := by
 have hq : Q key = [] := by have := h.hold key; rw [hh] at this; cases hq : Q key with | nil => rfl | cons a l => rw [hq] at this; simp at this
 unfold askQ
 rw [hq]
 refine ⟨fun j => ?_, fun j => ?_, fun x j => ?_, fun j => ?_⟩
 ·show mget (mput t.hold key tx) j = _
  rw [mget_put]; unfold updQ
  by_cases e : j = key
  ·simp [e]
  ·rw [if_neg e, if_neg e]; exact h.hold j
 ·show (mget t.line j).getD [] = _
  unfold updQ
  by_cases e : j = key
  ·subst e; rw [if_pos rfl, h.line j, hq]; rfl
  ·rw [if_neg e]; exact h.line j
 ·show mget t.wait x = some j ↔ _
  unfold updQ
  by_cases e : j = key
  ·subst e; rw [if_pos rfl, h.wait x j, hq]; simp
  ·rw [if_neg e]; exact h.wait x j
 ·unfold updQ
  by_cases e : j = key
  ·simp [e]
  ·rw [if_neg e]; exact h.nod j
theorem TabR.ask_line {t : Tbl} {Q : Int → List Int} (h : TabR t Q) {tx key a : Int} (hw : mget t.wait tx = none) (hh : mget t.hold key = some a) (ha : a ≠ tx) : TabR { t with wait := mput t.wait tx key, line := mput t.line key (lineAt t key ++ [tx]) } (askQ Q tx key) := by
 obtain ⟨l, hq⟩ : ∃ l, Q key = a :: l := by have := h.hold key; rw [hh] at this; cases hq : Q key with | nil => rw [hq] at this; simp at this | cons b l => rw [hq] at this; simp at this; exact ⟨l, by rw [this]⟩
 have hn := h.none_wait.1 hw
 have hl : lineAt t key = l := by unfold lineAt; rw [h.line key, hq]; rfl
 unfold askQ
 refine ⟨fun j => ?_, fun j => ?_, fun x j => ?_, fun j => ?_⟩
 ·show mget t.hold j = _
  unfold updQ
  by_cases e : j = key
  ·subst e; rw [if_pos rfl, hh, hq]; rfl
  ·rw [if_neg e]; exact h.hold j
 ·show (mget (mput t.line key _) j).getD [] = _
  rw [mget_put]
  unfold updQ
  by_cases e : j = key
  ·subst e; rw [if_pos rfl, if_pos rfl, hl, hq]; rfl
  ·rw [if_neg e, if_neg e]; exact h.line j
 ·show mget (mput t.wait tx key) x = some j ↔ _
  rw [mget_put]
  unfold updQ
  by_cases ex : x = tx
  ·subst ex
   rw [if_pos rfl]
   by_cases e : j = key
   ·subst e; rw [if_pos rfl, hq]; simp
   ·rw [if_neg e]
    constructor
    ·intro h1; exact absurd (Option.some.inj h1).symm e
    ·intro h1; exact absurd h1 (hn j)
  ·rw [if_neg ex]
   by_cases e : j = key
   ·subst e; rw [if_pos rfl, h.wait x j, hq]; simp [ex]
   ·rw [if_neg e]; exact h.wait x j
 ·unfold updQ
  by_cases e : j = key
  ·subst e
   rw [if_pos rfl, List.nodup_append]
   refine ⟨h.nod j, by simp, ?_⟩
   intro x hx y hy
   simp at hy; subst hy
   intro e; subst e
   rw [hq] at hx
   rcases List.mem_cons.1 hx with e | hx
   ·exact ha e.symm
   ·exact hn j (by rw [hq]; exact hx)
  ·rw [if_neg e]; exact h.nod j
theorem Rk.ask {t : Tbl} {Q : Int → List Int} {r : Int → Nat} (h : TabR t Q) (hr : Rk Q r) {tx key a : Int} {n : Nat} (hw : mget t.wait tx = none) (hh : mget t.hold key = some a) (hc : chase t tx n a = some false) : ∃ r', Rk (askQ Q tx key) r' := by
 classical
 obtain ⟨l, hq⟩ : ∃ l, Q key = a :: l := by have := h.hold key; rw [hh] at this; cases hq : Q key with | nil => rw [hq] at this; simp at this | cons b l => rw [hq] at this; simp at this; exact ⟨l, by rw [this]⟩
 refine ⟨fun x => r x + if Reach t tx x then r a + 1 else 0, fun k x hx => ?_⟩
 have hna : ¬ Reach t tx a := by rintro ⟨m, hm⟩; have := chase_one hc hm; cases this
 have old : ∀ k x, x ∈ (Q k).tail → (r ((Q k).headD 0) + if Reach t tx ((Q k).headD 0) then r a + 1 else 0) < r x + if Reach t tx x then r a + 1 else 0 := by
  intro k x hx
  have h1 := hr k x hx
  have hwx := (h.wait x k).2 hx
  have hne : x ≠ tx := by intro e; subst e; rw [hw] at hwx; cases hwx
  have h2 := Reach.next hne hwx
  have e : (mget t.hold k).getD 0 = (Q k).headD 0 := by rw [h.hold k]; cases Q k <;> rfl
  rw [e] at h2
  by_cases hR : Reach t tx x
  ·rw [if_pos hR, if_pos (h2.1 hR)]; omega
  ·rw [if_neg hR, if_neg (fun x => hR (h2.2 x))]; omega
 unfold askQ updQ at hx ⊢
 by_cases e : k = key
 ·subst e
  simp only [if_pos, hq, List.cons_append, List.tail_cons, List.headD_cons, List.mem_append, List.mem_singleton] at hx ⊢
  rcases hx with hx | rfl
  ·have := old k x (by rw [hq]; exact hx)
   simpa [hq] using this
  ·rw [if_neg hna, if_pos (Reach.here t x)]; omega
 ·simp only [if_neg e] at hx ⊢; exact old k x hx
theorem Rk.free {Q : Int → List Int} {r : Int → Nat} (hr : Rk Q r) {tx key : Int} (hq : Q key = []) : Rk (askQ Q tx key) r := by
 intro k x hx
 unfold askQ updQ at hx ⊢
 by_cases e : k = key
 ·subst e; simp [hq] at hx
 ·simp only [if_neg e] at hx ⊢; exact hr k x hx
theorem strike_tail_sub {l : List Int} {tx x : Int} (h : x ∈ (strike l tx).tail) : x ∈ l.tail := by
 cases l with
 | nil => simp [strike] at h
 | cons a l =>
  rw [strike_cons] at h
  split at h
  ·exact (strike_mem.1 (List.mem_of_mem_tail h)).1
  ·exact (strike_mem.1 h).1
theorem Rk.drop {t : Tbl} {Q : Int → List Int} {r : Int → Nat} (h : TabR t Q) (hr : Rk Q r) (tx : Int) : ∃ r', Rk (fun k => strike (Q k) tx) r' := by
 classical
 refine ⟨fun x => if ∃ k, x ∈ (strike (Q k) tx).tail then r x + 1 else 0, fun k x hx => ?_⟩
 simp only at hx ⊢
 rw [if_pos (⟨k, hx⟩ : ∃ k, x ∈ (strike (Q k) tx).tail)]
 split
 ·rename_i hw
  obtain ⟨k', hk'⟩ := hw
  have hx0 := strike_tail_sub hx
  cases hq : Q k with
  | nil => rw [hq] at hx; simp [strike] at hx
  | cons a l =>
   rw [hq] at hx0
   simp only [List.tail_cons] at hx0
   by_cases ea : a = tx
   ·exfalso
    subst ea
    rw [hq, strike_cons, if_pos rfl] at hx hk'
    cases hs : strike l a with
    | nil => rw [hs] at hx; simp at hx
    | cons b m =>
     rw [hs] at hk'
     simp only [List.headD_cons] at hk'
     have hb : b ∈ l := (strike_mem.1 (by rw [hs]; simp : b ∈ strike l a)).1
     have hkk := h.one (x := b) (k := k) (k' := k') (by rw [hq]; exact hb) (strike_tail_sub hk')
     subst hkk
     rw [hq, strike_cons, if_pos rfl, hs] at hk'
     have hnd := h.nod k
     rw [hq, List.nodup_cons] at hnd
     have : (strike l a).Nodup := hnd.2.sublist List.filter_sublist
     rw [hs, List.nodup_cons] at this
     exact this.1 hk'
   ·have h1 := hr k x (by rw [hq]; exact hx0)
    rw [hq] at h1
    rw [strike_cons, if_neg ea]
    simp only [List.headD_cons] at h1 ⊢
    omega
 ·omega
def Rng (Q : Int → List Int) : Prop := ∀ k, ∀ x ∈ Q k, 1 ≤ x ∧ x ≤ 8 ∧ 0 ≤ k ∧ k < 5
theorem Rng.ask {Q : Int → List Int} (h : Rng Q) {tx key : Int} (h1 : 1 ≤ tx) (h2 : tx ≤ 8) (h3 : 0 ≤ key) (h4 : key < 5) : Rng (askQ Q tx key) := by
 intro k x hx
 unfold askQ updQ at hx
 by_cases e : k = key
 ·subst e
  simp at hx
  rcases hx with hx | rfl
  ·exact h k x hx
  ·exact ⟨h1, h2, h3, h4⟩
 ·simp only [if_neg e] at hx; exact h k x hx
theorem Rng.drop {Q : Int → List Int} (h : Rng Q) (tx : Int) : Rng (fun k => strike (Q k) tx) := fun k x hx => h k x (strike_mem.1 hx).1
theorem few : ∀ {l S : List Int}, l.Nodup → (∀ x ∈ l, x ∈ S) → l.length ≤ S.length
 | [], _, _, _ => Nat.zero_le _
 | a :: l, S, hn, hs => by
  rw [List.nodup_cons] at hn
  have ha := hs a (by simp)
  have := few (l := l) (S := S.erase a) hn.2 (fun x hx => by
   have h1 := hs x (by simp [hx])
   exact (List.mem_erase_of_ne (by intro e; subst e; exact hn.1 hx)).2 h1)
  have h2 := List.length_erase_of_mem ha
  have h3 : 0 < S.length := List.length_pos_of_mem ha
  simp only [List.length_cons]; omega
theorem few8 {l : List Int} (hn : l.Nodup) (h : ∀ x ∈ l, 1 ≤ x ∧ x ≤ 8) : l.length ≤ 8 :=
 few (S := [1, 2, 3, 4, 5, 6, 7, 8]) hn (fun x hx => by have := h x hx; simp; omega)
structure GoodT (t : Tbl) (Q : Int → List Int) (r : Int → Nat) : Prop where
 tab : TabR t Q
 rk : Rk Q r
 rng : Rng Q
theorem GoodT.start : ∃ r, GoodT ⟨[], [], []⟩ (fun _ => []) r := ⟨fun _ => 0, TabR.start, by intro k x hx; simp at hx, by intro k x hx; simp at hx⟩
variable {t : Tbl} {Q : Int → List Int} {r : Int → Nat}
theorem GoodT.waits (h : GoodT t Q r) {y k : Int} (hw : mget t.wait y = some k) : ∃ a, mget t.hold k = some a ∧ a ≠ 0 ∧ a ≠ y ∧ r a < r y ∧ 1 ≤ a ∧ a ≤ 8 ∧ 0 ≤ k := by
 have hy := (h.tab.wait y k).1 hw
 have h1 := h.rk k y hy
 have h2 := h.tab.hold k
 cases hq : Q k with
 | nil => rw [hq] at hy; simp at hy
 | cons a l =>
  rw [hq] at h1 h2
  simp only [List.headD_cons, List.head?_cons] at h1 h2
  obtain ⟨h3, h4, h5, _⟩ := h.rng k a (by rw [hq]; simp)
  exact ⟨a, h2, by omega, by intro e; subst e; omega, h1, h3, h4, h5⟩
theorem GoodT.ask (h : GoodT t Q r) {tx key : Int} {c : Bool} (h1 : 1 ≤ tx) (h2 : tx ≤ 8) (h3 : 0 ≤ key) (h4 : key < 5) (hc : ∀ a, mget t.hold key = some a → ∃ n, chase t tx n a = some c) :
  (∃ Q' r', GoodT (tbAsk t tx key c).1 Q' r') ∧ ((tbAsk t tx key c).2.1 = true → (tbAsk t tx key c).2.2 = 0 ∧ mget (tbAsk t tx key c).1.hold key = some tx) := by
 have e0 : ¬ (key < 0 ∨ 10 ≤ key ∨ tx < 1) := by omega
 unfold tbAsk
 rw [if_neg e0]
 cases hw : mget t.wait tx with
 | some k => exact ⟨⟨Q, r, h⟩, by simp⟩
 | none =>
  simp only [Option.isSome_none, Bool.false_eq_true, ↓reduceIte]
  cases hh : mget t.hold key with
  | none =>
   have hq : Q key = [] := by have := h.tab.hold key; rw [hh] at this; cases hq : Q key with | nil => rfl | cons a l => rw [hq] at this; simp at this
   exact ⟨⟨_, r, h.tab.ask_free hh, h.rk.free hq, h.rng.ask h1 h2 h3 h4⟩, fun _ => ⟨rfl, by simp [mget_put]⟩⟩
  | some a =>
   obtain ⟨n, hn⟩ := hc a hh
   simp only
   by_cases ea : a = tx
   ·rw [if_pos ea]; subst ea; exact ⟨⟨Q, r, h⟩, fun _ => ⟨rfl, hh⟩⟩
   ·rw [if_neg ea]
    cases c with
    | true => exact ⟨⟨Q, r, h⟩, by simp⟩
    | false =>
     obtain ⟨r', hr'⟩ := Rk.ask h.tab h.rk hw hh hn
     exact ⟨⟨_, r', h.tab.ask_line hw hh ea, hr', h.rng.ask h1 h2 h3 h4⟩, by simp⟩
theorem GoodT.drop (h : GoodT t Q r) (hn : (t.hold.map (·.1)).Nodup) (tx : Int) : (∃ r', GoodT (tbDrop t tx).1 (fun k => strike (Q k) tx) r') ∧ ∀ p ∈ (tbDrop t tx).2, mget (tbDrop t tx).1.hold p.1 = some p.2 ∧ mget (tbDrop t tx).1.wait p.2 = none := by
 obtain ⟨h1, h2⟩ := h.tab.dropped hn tx
 obtain ⟨r', hr'⟩ := Rk.drop h.tab h.rk tx
 refine ⟨⟨r', h1, hr', h.rng.drop tx⟩, fun p hp => ?_⟩
 rw [h2] at hp
 unfold nexts at hp
 rw [List.mem_flatMap] at hp
 obtain ⟨k, hk, hpk⟩ := hp
 rw [sortI_mem, holders_mem hn] at hk
 rw [strikeQ_tail] at hpk
 cases hq : Q k with
 | nil => rw [hq] at hpk; simp [strike, firstL] at hpk
 | cons a l =>
  have := h.tab.hold k
  rw [hk, hq] at this
  simp only [List.head?_cons, Option.some.injEq] at this
  subst this
  rw [hq] at hpk
  simp only [List.tail_cons] at hpk
  cases hs : strike l tx with
  | nil => rw [hs] at hpk; simp [firstL] at hpk
  | cons b m =>
   rw [hs] at hpk
   simp only [firstL, List.mem_singleton] at hpk
   subst hpk
   have hsk : strike (Q k) tx = b :: m := by rw [hq, strike_cons, if_pos rfl, hs]
   refine ⟨by rw [h1.hold]; simp [hsk], ?_⟩
   rw [h1.none_wait]
   intro k' hk'
   have hb : b ∈ (Q k).tail := by rw [hq]; exact (strike_mem.1 (by rw [hs]; simp : b ∈ strike l tx)).1
   have := h.tab.one hb (strike_tail_sub hk')
   subst this
   rw [hsk] at hk'
   have hnd := h1.nod k
   simp only [hsk, List.nodup_cons] at hnd
   exact hnd.1 hk'
def Chain (r : Int → Nat) (n : Nat) (y : Int) : Prop := ∃ vs : List Int, vs.length = n ∧ vs.Nodup ∧ (∀ v ∈ vs, 1 ≤ v ∧ v ≤ 8 ∧ r y < r v) ∧ 1 ≤ y ∧ y ≤ 8
theorem Chain.start {r : Int → Nat} {y : Int} (h1 : 1 ≤ y) (h2 : y ≤ 8) : Chain r 0 y := ⟨[], rfl, List.nodup_nil, by simp, h1, h2⟩
theorem Chain.next {r : Int → Nat} {n : Nat} {y a : Int} (h : Chain r n y) (h1 : r a < r y) (h2 : 1 ≤ a) (h3 : a ≤ 8) : Chain r (n + 1) a := by
 obtain ⟨vs, hl, hn, hv, h4, h5⟩ := h
 refine ⟨y :: vs, by simp [hl], ?_, ?_, h2, h3⟩
 ·rw [List.nodup_cons]; exact ⟨fun hy => by have := (hv y hy).2.2; omega, hn⟩
 ·intro v hm
  rcases List.mem_cons.1 hm with rfl | hm
  ·exact ⟨h4, h5, h1⟩
  ·obtain ⟨h6, h7, h8⟩ := hv v hm; exact ⟨h6, h7, by omega⟩
theorem Chain.le {r : Int → Nat} {n : Nat} {y : Int} (h : Chain r n y) : n ≤ 8 := by
 obtain ⟨vs, hl, hn, hv, _, _⟩ := h
 rw [← hl]; exact few8 hn (fun x hx => ⟨(hv x hx).1, (hv x hx).2.1⟩)
def Left (x : Int) (Q : Int → List Int) : Prop := ∀ k, ∀ y ∈ Q k, x ≤ y
theorem Left.start {Q : Int → List Int} (h : Rng Q) : Left 1 Q := fun k y hy => (h k y hy).1
theorem Left.next {x : Int} {Q : Int → List Int} (h : Left x Q) : Left (x + 1) (fun k => Sep.strike (Q k) x) := by
 intro k y hy
 obtain ⟨h1, h2⟩ := strike_mem.1 hy
 have := h k y h1; omega
theorem Left.none {Q : Int → List Int} (h : Left 9 Q) (hr : Rng Q) (k : Int) : Q k = [] := by
 apply List.eq_nil_iff_forall_not_mem.2
 intro y hy
 have := h k y hy; have := (hr k y hy).2.1; omega
end Go.Sep
/- Lines of transactions, in plain words: who must be ahead of whom, and the line that comes of it. -/
namespace Go.Proofs.YtmfngjclccehaaaGreatDoor
open Go
structure Op1 where
 tx : Int
 key : Int
 wr : Bool
 fr : Int
def wput (w : List Int) (x : Int) : List Int := if w.getLast? = some x then w else w ++ [x]
def wstep (k : Int) (w : List Int) (o : Op1) : List Int := if o.wr = true ∧ o.key = k then wput w o.tx else w
def writers (l : List Op1) (k : Int) : List Int := l.foldl (wstep k) []
theorem wput_mem {w : List Int} {x y : Int} (h : y ∈ wput w x) : y ∈ w ∨ y = x := by
 unfold wput at h
 split at h
 ·exact .inl h
 ·simpa using h
theorem writers_mem' {k y : Int} : ∀ (l : List Op1) (w : List Int), y ∈ l.foldl (wstep k) w → y ∈ w ∨ ∃ o ∈ l, o.wr = true ∧ o.key = k ∧ o.tx = y
 | [], w, h => .inl h
 | o :: l, w, h => by
  rcases writers_mem' l _ h with h | ⟨o', h, h2⟩
  ·unfold wstep at h
   split at h
   ·rename_i hc
    rcases wput_mem h with h | rfl
    ·exact .inl h
    ·exact .inr ⟨o, by simp, hc.1, hc.2, rfl⟩
   ·exact .inl h
  ·exact .inr ⟨o', by simp [h], h2⟩
theorem writers_mem {l : List Op1} {k y : Int} (h : y ∈ writers l k) : ∃ o ∈ l, o.wr = true ∧ o.key = k ∧ o.tx = y := by
 rcases writers_mem' l [] h with h | h
 ·simp at h
 ·exact h
def nextOf (w : List Int) (f : Int) : Option Int := w[(Lib.idxOf w f + 1).toNat]?
def Edge (l : List Op1) (p : Int × Int) : Prop :=
 p.1 ≠ p.2 ∧ p.1 ≠ 0 ∧ ((∃ (k : Int) (i : Nat), (writers l k)[i]? = some p.1 ∧ (writers l k)[i + 1]? = some p.2) ∨
  ∃ o ∈ l, o.wr = false ∧ ((p.1 = o.fr ∧ p.2 = o.tx) ∨ (p.1 = o.tx ∧ nextOf (writers l o.key) o.fr = some p.2)))
def ltP (a b : Int × Int) : Prop := a.1 < b.1 ∨ (a.1 = b.1 ∧ a.2 < b.2)
theorem ltP.irrefl (a : Int × Int) : ¬ ltP a a := by unfold ltP; omega
theorem ltP.trans {a b c : Int × Int} (h : ltP a b) (h2 : ltP b c) : ltP a c := by unfold ltP at *; omega
theorem ltP.asymm {a b : Int × Int} (h : ltP a b) (h2 : ltP b a) : False := by unfold ltP at *; omega
theorem sorted_unique : ∀ {a b : List (Int × Int)}, a.Pairwise ltP → b.Pairwise ltP → (∀ p, p ∈ a ↔ p ∈ b) → a = b
 | [], [], _, _, _ => rfl
 | [], y :: b, _, _, h => by have := (h y).2 (by simp); simp at this
 | x :: a, [], _, _, h => by have := (h x).1 (by simp); simp at this
 | x :: a, y :: b, ha, hb, h => by
  have ha' := List.pairwise_cons.1 ha
  have hb' := List.pairwise_cons.1 hb
  have e : x = y := by
   rcases List.mem_cons.1 ((h x).1 (by simp)) with e | hx
   ·exact e
   ·rcases List.mem_cons.1 ((h y).2 (by simp)) with e | hy
    ·exact e.symm
    ·exact ((hb'.1 _ hx).asymm (ha'.1 _ hy)).elim
  subst e
  congr 1
  apply sorted_unique ha'.2 hb'.2
  intro p
  have := h p
  simp only [List.mem_cons] at this
  constructor
  ·intro hp
   rcases this.1 (.inr hp) with e | hb2
   ·subst e; exact (ltP.irrefl _ (ha'.1 _ hp)).elim
   ·exact hb2
  ·intro hp
   rcases this.2 (.inr hp) with e | ha2
   ·subst e; exact (ltP.irrefl _ (hb'.1 _ hp)).elim
   ·exact ha2
def lostRead (l : List Op1) (o : Op1) : Bool := !o.wr && decide (o.fr ≠ 0) && decide (o.fr ∉ writers l o.key)
theorem Edge.txs {l : List Op1} {p : Int × Int} (h : Edge l p) (hr : ∀ o ∈ l, lostRead l o = false) : (∃ o ∈ l, o.tx = p.1) ∧ ∃ o ∈ l, o.tx = p.2 := by
 obtain ⟨_, hz, h⟩ := h
 have hw : ∀ {k y : Int}, y ∈ writers l k → ∃ o ∈ l, o.tx = y := fun h => let ⟨o, ho, _, _, h⟩ := writers_mem h; ⟨o, ho, h⟩
 rcases h with ⟨k, i, h1, h2⟩ | ⟨o, ho, hro, ⟨h1, h2⟩ | ⟨h1, h2⟩⟩
 ·exact ⟨hw (List.mem_of_getElem? h1), hw (List.mem_of_getElem? h2)⟩
 ·refine ⟨?_, o, ho, h2.symm⟩
  have := hr o ho
  simp only [lostRead, hro] at this
  rw [h1] at hz ⊢
  simp [hz] at this
  exact hw this
 ·exact ⟨⟨o, ho, h1.symm⟩, hw (List.mem_of_getElem? h2)⟩
def free (es : List (Int × Int)) (rem : List Int) (x : Int) : Bool := es.all fun e => !(decide (e.2 = x) && decide (e.1 ∈ rem))
def Before (p : List Int) (a b : Int) : Prop := ∃ i j : Nat, p[i]? = some a ∧ p[j]? = some b ∧ i < j
theorem Before.cons {p : List Int} {a b x : Int} (h : Before p a b) : Before (x :: p) a b := by
 obtain ⟨i, j, h1, h2, h3⟩ := h
 exact ⟨i + 1, j + 1, by simpa using h1, by simpa using h2, by omega⟩
theorem Before.head {p : List Int} {x b : Int} (h : b ∈ p) : Before (x :: p) x b := by
 obtain ⟨j, hj⟩ := List.getElem?_of_mem h
 exact ⟨0, j + 1, by simp, by simpa using hj, by omega⟩
theorem Before.filter (f : Int → Bool) : ∀ {p : List Int} {a b : Int}, Before p a b → f a = true → f b = true → Before (p.filter f) a b
 | [], a, b, ⟨i, j, h1, _, _⟩, _, _ => by simp at h1
 | x :: p, a, b, ⟨i, j, h1, h2, h3⟩, ha, hb => by
  cases i with
  | zero =>
   simp at h1
   subst h1
   cases j with
   | zero => omega
   | succ j =>
    simp at h2
    simp only [List.filter_cons, ha, ↓reduceIte]
    exact Before.head (List.mem_filter.2 ⟨List.mem_of_getElem? h2, hb⟩)
  | succ i =>
   cases j with
   | zero => omega
   | succ j =>
    have := Before.filter f (p := p) ⟨i, j, by simpa using h1, by simpa using h2, by omega⟩ ha hb
    simp only [List.filter_cons]
    split
    ·exact this.cons
    ·exact this
end Go.Proofs.YtmfngjclccehaaaGreatDoor
/- Transactions at the same time: what the program's engine computes, in plain words. No walk in sight. -/
namespace Go.Proofs.YtmfngjclccehaaaGreatDoor
open Go Go.RowKit Go.Sep
structure Tx where
 level : Int
 state : Int
 start : Int
 begun : Int
 ended : Int
 reads : List (Int × Int)
 writes : List (Int × Int)
 want : Int × Int
 fore : List Nat
 aft : List Nat
 why : Int
def Tx.zero : Tx := ⟨0, 0, 0, 0, 0, [], [], (0, 0), [], [], 0⟩
structure Eng where
 V : List Vers
 last : Int
 t : Tbl
 txs : List Tx
 count : Int
 wr : List (Int × Int)
 hist : List Op1
def Eng.zero : Eng := ⟨List.replicate 10 [], 0, ⟨[], [], []⟩, [], 0, [], []⟩
def Eng.tx (e : Eng) (i : Nat) : Tx := (e.txs[i]?).getD .zero
def Eng.upd (e : Eng) (i : Nat) (f : Tx → Tx) : Eng := { e with txs := e.txs.modify i f }
def Eng.row (e : Eng) (k : Int) : Vers := (e.V[k.toNat]?).getD []
def Tx.strict (x : Tx) : Bool := decide (x.level = 2) && decide (x.state ≠ 3)
def Tx.alive (x : Tx) : Bool := decide (x.state ≤ 1)
def Tx.wrote (x : Tx) (key : Int) : Bool := (mget x.writes key).isSome
def Tx.saw (x : Tx) (key : Int) : Bool := x.reads.any fun r => decide (r.1 = key)
def Eng.there (e : Eng) (i : Nat) : Bool := decide ((e.tx i).state ≠ 3)
def Eng.middle (e : Eng) (i : Nat) : Bool := (e.tx i).fore.any e.there && (e.tx i).aft.any e.there
def Eng.wrong (e : Eng) (i : Nat) : Bool := decide ((e.tx i).state = 2) && e.middle i
def Eng.note (e : Eng) (a b : Nat) : Eng := (e.upd a fun x => { x with aft := x.aft ++ [b] }).upd b fun x => { x with fore := x.fore ++ [a] }
def Eng.bad (e : Eng) (a b : Nat) : Bool := e.wrong a || e.wrong b
def sawNew (i : Nat) : List Int → Eng → Eng × Bool
 | [], e => (e, true)
 | at_ :: l, e =>
  let k := (mget e.wr at_).getD 0
  if 0 < k ∧ (e.tx (k.toNat - 1)).strict = true then
   let e' := e.note i (k.toNat - 1)
   if e'.bad i (k.toNat - 1) then (e', false) else sawNew i l e'
  else sawNew i l e
def sawOpen (i : Nat) (key : Int) : List Nat → Eng → Eng
 | [], e => e
 | j :: l, e => sawOpen i key l (if (e.tx j).wrote key && decide (j ≠ i) && (e.tx j).strict && (e.tx j).alive then e.note i j else e)
def Eng.sees (e : Eng) (i : Nat) (key : Int) : Eng × Bool :=
 let r := sawNew i (newerL (e.row key) (e.tx i).start) e
 if r.2 then (sawOpen i key (List.range r.1.txs.length) r.1, true) else r
def skips (e : Eng) (i : Nat) (key : Int) (j : Nat) : Bool :=
 decide (j = i) || !(e.tx j).strict || (decide ((e.tx j).state = 2) && decide ((e.tx j).ended < (e.tx i).begun)) || !(e.tx j).saw key
def putsL (goes : Eng → Nat → Int → Eng) (i : Nat) (key : Int) : List Nat → Eng → Eng
 | [], e => e
 | j :: l, e => if skips e i key j then putsL goes i key l e else
  let e' := e.note j i
  if e'.bad j i then goes e' i 13 else putsL goes i key l e'
def Eng.late (e : Eng) (i : Nat) (key : Int) : Prop := (e.tx i).level ≠ 0 ∧ newerL (e.row key) (e.tx i).start ≠ []
instance (e : Eng) (i : Nat) (key : Int) : Decidable (e.late i key) := by unfold Eng.late; infer_instance
def Eng.wput (e : Eng) (i : Nat) (w : Int × Int) : Eng := e.upd i fun x => { x with writes := mput x.writes w.1 w.2 }
def Eng.opens (e : Eng) (i : Nat) : Eng := e.upd i fun x => { x with state := 0 }
def putsG (goes : Eng → Nat → Int → Eng) (e : Eng) (i : Nat) (w : Int × Int) : Eng :=
 if e.late i w.1 then goes e i 10 else if (e.tx i).level = 2 then putsL goes i w.1 (List.range e.txs.length) (e.wput i w) else e.wput i w
def freesL (goes : Eng → Nat → Int → Eng) : List (Int × Int) → Eng → Eng
 | [], e => e
 | w :: l, e => freesL goes l (putsG goes (e.opens (w.2.toNat - 1)) (w.2.toNat - 1) ((e.opens (w.2.toNat - 1)).tx (w.2.toNat - 1)).want)
def Eng.lets (e : Eng) (i : Nat) : Eng := { e with t := (tbDrop e.t ((i : Int) + 1)).1 }
def Eng.heirs (e : Eng) (i : Nat) : List (Int × Int) := (tbDrop e.t ((i : Int) + 1)).2
def freesG (goes : Eng → Nat → Int → Eng) (e : Eng) (i : Nat) : Eng := freesL goes (e.heirs i) (e.lets i)
def Eng.mark (e : Eng) (i : Nat) (why : Int) : Eng :=
 { e.upd i (fun x => { x with state := 3, why := why, ended := e.count + 1 }) with count := e.count + 1 }
def Eng.left (e : Eng) (i : Nat) (why : Int) : Eng := (e.mark i why).lets i
def goesN : Nat → Eng → Nat → Int → Eng
 | 0, e, _, _ => e
 | n + 1, e, i, why => freesG (goesN n) (e.mark i why) i
def Eng.open_ (e : Eng) : Nat := e.txs.countP Tx.alive
def Eng.goes (e : Eng) (i : Nat) (why : Int) : Eng := goesN e.open_ e i why
def Eng.puts (e : Eng) (i : Nat) (w : Int × Int) : Eng := putsG (goesN e.open_) e i w
def Eng.frees (e : Eng) (i : Nat) : Eng := freesG (goesN e.open_) e i
def Eng.err (e : Eng) (n : Int) (op : Bool) : Int :=
 if n < 1 ∨ (e.txs.length : Int) < n then 7 else if op = true ∧ (e.tx (n.toNat - 1)).state ≠ 0 then 6 else 0
def Eng.begin_ (e : Eng) (level : Int) : Eng × Int × Int :=
 if level < 0 ∨ 2 < level then (e, 0, 1) else if 200 ≤ e.txs.length then (e, 0, 12) else if 6 ≤ e.open_ then (e, 0, 4) else
 ({ e with count := e.count + 1, txs := e.txs ++ [{ Tx.zero with level := level, start := e.last, begun := e.count + 1 }] }, (e.txs.length : Int) + 1, 0)
def Eng.asOf (e : Eng) (i : Nat) : Int := if (e.tx i).level = 0 then e.last else (e.tx i).start
def Eng.read (e : Eng) (n key : Int) : Eng × Int × Int :=
 if e.err n true ≠ 0 then (e, 0, e.err n true) else
 let i := n.toNat - 1
 match mget (e.tx i).writes key with
 | some v => (e, v, 0)
 | none =>
  if ¬ keyOk key then (e, 0, 2) else
  let r := readV (e.row key) (e.asOf i)
  let e' := e.upd i fun x => { x with reads := x.reads ++ [(key, (mget e.wr ((r.map (·.1)).getD 0)).getD 0)] }
  if (e.tx i).level = 2 then
   let s := e'.sees i key
   if s.2 then (s.1, (r.map (·.2)).getD 0, if r.isSome then 0 else 8) else (s.1.goes i 13, 0, 13)
  else (e', (r.map (·.2)).getD 0, if r.isSome then 0 else 8)
open Classical in
noncomputable def comesRound (t : Tbl) (tx key : Int) : Bool := decide (∃ h, mget t.hold key = some h ∧ Sep.Reach t tx h)
noncomputable def Eng.write (e : Eng) (n key value : Int) : Eng × Bool × Int :=
 if e.err n true ≠ 0 then (e, false, e.err n true) else if ¬ keyOk key then (e, false, 2) else if ¬ valOk value then (e, false, 1) else
 let i := n.toNat - 1
 let e1 := e.upd i fun x => { x with want := (key, value) }
 let r := tbAsk e.t n key (comesRound e.t n key)
 let e2 := { e1 with t := r.1 }
 if r.2.2 ≠ 0 then (e2.goes i 11, false, 11) else if r.2.1 = false then (e2.upd i fun x => { x with state := 1 }, false, 0) else
 let e3 := e2.puts i (key, value)
 if (e3.tx i).state = 3 then (e3, false, (e3.tx i).why) else (e3, true, 0)
def Eng.ready (e : Eng) (n : Int) : Int :=
 if e.err n true ≠ 0 then e.err n true else if (e.tx (n.toNat - 1)).level = 2 ∧ e.middle (n.toNat - 1) = true then 13 else 0
def Tx.written (x : Tx) : List (Int × Int) := (sortI (x.writes.map (·.1))).map fun k => (k, (mget x.writes k).getD 0)
def Eng.writes (e : Eng) (n : Int) : List (Int × Int) × Int := if e.err n false ≠ 0 then ([], e.err n false) else ((e.tx (n.toNat - 1)).written, 0)
def instOk' (last at_ : Int) (l : Vers) : Bool := decide (last < at_ ∧ at_ ≤ 1099511627776) && (badAt 0 l).isNone
def toldL (n : Int) (x : Tx) : List Op1 := (x.reads.map fun r => ⟨n, r.1, false, r.2⟩) ++ x.written.map fun w => ⟨n, w.1, true, 0⟩
def Eng.installed (e : Eng) (n : Int) (l : List (Int × Int)) : Eng :=
 if l = [] then e else
 if instOk' e.last (e.last + 1) l then { e with V := putAll (e.last + 1) e.V l, last := e.last + 1, wr := mput e.wr (e.last + 1) n } else { e with wr := mput e.wr (e.last + 1) n }
def Eng.commit (e : Eng) (n : Int) : Eng × Int :=
 if e.ready n ≠ 0 then (if e.ready n = 13 then e.goes (n.toNat - 1) 13 else e, e.ready n) else
 let i := n.toNat - 1
 let e1 := { e with hist := e.hist ++ toldL n (e.tx i) }
 let e2 := e1.installed n (e.tx i).written
 let e3 := { e2.upd i (fun x => { x with state := 2, ended := e.count + 1 }) with count := e.count + 1 }
 (e3.frees i, 0)
def Eng.abort (e : Eng) (n : Int) : Eng × Int :=
 if e.err n false ≠ 0 then (e, e.err n false) else if 1 < (e.tx (n.toNat - 1)).state then (e, 6) else (e.goes (n.toNat - 1) 0, 0)
def Eng.floor (e : Eng) : Int := e.txs.foldl (fun a x => if x.alive = true ∧ x.level ≠ 0 then min a x.start else a) e.last
def Eng.sweep (e : Eng) : Eng × Int := ({ e with V := e.V.map (swept e.floor) }, (((e.V.map (sweptN e.floor)).sum : Nat) : Int))
def Eng.state (e : Eng) (n : Int) : Int × Int × Int := if e.err n false ≠ 0 then (0, 0, e.err n false) else ((e.tx (n.toNat - 1)).state, (e.tx (n.toNat - 1)).why, 0)
def Eng.waits (e : Eng) (n : Int) : Int := match mget e.t.wait n with | some k => if 0 ≤ k then (mget e.t.hold k).getD 0 else 0 | none => 0
end Go.Proofs.YtmfngjclccehaaaGreatDoor
namespace Go.Proofs.YtmfngjclccehaaaGreatDoor
open Go Go.RowKit Go.Sep
theorem countP_modify {α : Type} (p : α → Bool) (f : α → α) : ∀ (l : List α) (i : Nat) (h : i < l.length), (l.modify i f).countP p + (if p l[i] = true then 1 else 0) = l.countP p + (if p (f l[i]) = true then 1 else 0)
 | a :: l, 0, _ => by simp only [List.modify_zero_cons, List.countP_cons, List.getElem_cons_zero]; omega
 | a :: l, i + 1, h => by
  have := countP_modify p f l i (by simpa using h)
  simp only [List.modify_succ_cons, List.countP_cons, List.getElem_cons_succ]; omega
variable {e e' : Eng} {i j : Nat} {T : List Tx}
theorem Eng.tx_some (h : i < e.txs.length) : e.txs[i]? = some (e.tx i) := by unfold Eng.tx; simp [h]
theorem Eng.tx_eq {x : Tx} (h : e.txs[i]? = some x) : e.tx i = x := by unfold Eng.tx; simp [h]
theorem Eng.tx_mem (h : i < e.txs.length) : e.tx i ∈ e.txs := List.mem_of_getElem? (Eng.tx_some h)
theorem Eng.mem_tx {x : Tx} (h : x ∈ e.txs) : ∃ i, i < e.txs.length ∧ e.tx i = x := by
 obtain ⟨i, hi⟩ := List.getElem?_of_mem h
 exact ⟨i, (List.getElem?_eq_some_iff.1 hi).1, Eng.tx_eq hi⟩
theorem Eng.upd_len (e : Eng) (i : Nat) (f : Tx → Tx) : (e.upd i f).txs.length = e.txs.length := by simp [Eng.upd]
theorem Eng.upd_tx (e : Eng) (i : Nat) (f : Tx → Tx) (j : Nat) : (e.upd i f).tx j = if i = j ∧ j < e.txs.length then f (e.tx j) else e.tx j := by
 unfold Eng.upd Eng.tx
 simp only [List.getElem?_modify]
 by_cases h : i = j
 ·subst h
  by_cases hl : i < e.txs.length
  ·simp [hl]
  ·simp [hl]
 ·simp [h]
theorem Eng.upd_self (h : i < e.txs.length) (f : Tx → Tx) : (e.upd i f).tx i = f (e.tx i) := by rw [Eng.upd_tx, if_pos ⟨rfl, h⟩]
theorem Eng.upd_ne (h : i ≠ j) (f : Tx → Tx) : (e.upd i f).tx j = e.tx j := by rw [Eng.upd_tx, if_neg (fun x => h x.1)]
theorem Eng.upd_keep {β : Type} (g : Tx → β) (f : Tx → Tx) (hg : ∀ x, g (f x) = g x) (j : Nat) : g ((e.upd i f).tx j) = g (e.tx j) := by
 rw [Eng.upd_tx]; split
 ·exact hg _
 ·rfl
theorem Eng.upd_set (h : i < e.txs.length) (f : Tx → Tx) : (e.upd i f).txs = e.txs.set i (f (e.tx i)) := by
 unfold Eng.upd Eng.tx
 apply List.ext_getElem?
 intro j
 simp only [List.getElem?_modify, List.getElem?_set]
 by_cases hj : i = j
 ·subst hj; simp [h]
 ·simp [hj]
theorem Eng.note_len (e : Eng) (a b : Nat) : (e.note a b).txs.length = e.txs.length := by simp [Eng.note, Eng.upd]
theorem Eng.note_keep {β : Type} (g : Tx → β) (hg : ∀ x l, g { x with aft := l } = g x) (hf : ∀ x l, g { x with fore := l } = g x) (a b j : Nat) : g ((e.note a b).tx j) = g (e.tx j) := by
 unfold Eng.note
 rw [Eng.upd_keep g _ (fun x => hf x _), Eng.upd_keep g _ (fun x => hg x _)]
theorem Eng.mark_len (e : Eng) (i : Nat) (why : Int) : (e.mark i why).txs.length = e.txs.length := by simp [Eng.mark, Eng.upd]
theorem Eng.mark_tx (e : Eng) (i : Nat) (why : Int) (j : Nat) : (e.mark i why).tx j = if i = j ∧ j < e.txs.length then { e.tx j with state := 3, why := why, ended := e.count + 1 } else e.tx j := Eng.upd_tx e i _ j
def Eng.many (e : Eng) (p : Tx → Bool) : Nat := e.txs.countP p
theorem Eng.many_upd (h : i < e.txs.length) (p : Tx → Bool) (f : Tx → Tx) : (e.upd i f).many p + (if p (e.tx i) = true then 1 else 0) = e.many p + (if p (f (e.tx i)) = true then 1 else 0) := by
 have := countP_modify p f e.txs i h
 have e1 : e.txs[i] = e.tx i := by unfold Eng.tx; simp [h]
 rw [e1] at this; exact this
theorem Eng.many_keep (p : Tx → Bool) (f : Tx → Tx) (hp : ∀ x, p (f x) = p x) : (e.upd i f).many p = e.many p := by
 by_cases h : i < e.txs.length
 ·have := Eng.many_upd h p f
  rw [hp] at this; omega
 ·unfold Eng.upd Eng.many
  simp only
  rw [List.modify_eq_self (by omega)]
theorem Eng.many_pos (h : i < e.txs.length) {p : Tx → Bool} (hp : p (e.tx i) = true) : 1 ≤ e.many p := List.countP_pos_iff.2 ⟨_, Eng.tx_mem h, hp⟩
def Tx.waits (x : Tx) : Bool := decide (x.state = 1)
inductive Task where
 | hand (w : Int × Int)
 | put (i : Nat) (w : Int × Int)
 | ask (i : Nat) (key : Int) (l : List Nat)
def Task.who : Task → Nat
 | .hand w => w.2.toNat - 1
 | .put i _ => i
 | .ask i _ _ => i
inductive Runs : Eng → List Task → Eng → Prop where
 | done (e : Eng) : Runs e [] e
 | hand {e e' : Eng} {w : Int × Int} {T : List Task} (h : Runs (e.opens (w.2.toNat - 1)) (.put (w.2.toNat - 1) (e.tx (w.2.toNat - 1)).want :: T) e') : Runs e (.hand w :: T) e'
 | late {e e' : Eng} {i : Nat} {w : Int × Int} {T : List Task} (hl : e.late i w.1) (h : Runs (e.left i 10) ((e.heirs i).map .hand ++ T) e') : Runs e (.put i w :: T) e'
 | put {e e' : Eng} {i : Nat} {w : Int × Int} {T : List Task} (hl : ¬ e.late i w.1) (h2 : (e.tx i).level ≠ 2) (h : Runs (e.wput i w) T e') : Runs e (.put i w :: T) e'
 | puts {e e' : Eng} {i : Nat} {w : Int × Int} {T : List Task} (hl : ¬ e.late i w.1) (h2 : (e.tx i).level = 2) (h : Runs (e.wput i w) (.ask i w.1 (List.range e.txs.length) :: T) e') : Runs e (.put i w :: T) e'
 | asked {e e' : Eng} {i : Nat} {key : Int} {T : List Task} (h : Runs e T e') : Runs e (.ask i key [] :: T) e'
 | skip {e e' : Eng} {i j : Nat} {key : Int} {l : List Nat} {T : List Task} (hs : skips e i key j = true) (h : Runs e (.ask i key l :: T) e') : Runs e (.ask i key (j :: l) :: T) e'
 | note {e e' : Eng} {i j : Nat} {key : Int} {l : List Nat} {T : List Task} (hs : skips e i key j = false) (hb : (e.note j i).bad j i = false) (h : Runs (e.note j i) (.ask i key l :: T) e') : Runs e (.ask i key (j :: l) :: T) e'
 | wrong {e e' : Eng} {i j : Nat} {key : Int} {l : List Nat} {T : List Task} (hs : skips e i key j = false) (hb : (e.note j i).bad j i = true) (h : Runs ((e.note j i).left i 13) (((e.note j i).heirs i).map .hand ++ T) e') : Runs e (.ask i key (j :: l) :: T) e'
def slack : Task → Nat
 | .hand _ => 0
 | .put _ _ => 200
 | .ask _ _ l => l.length
def slacks (T : List Task) : Nat := (T.map slack).sum
structure Task.ok (e : Eng) (T : Task) : Prop where
 lt : T.who < e.txs.length
 hand : ∀ w, T = .hand w → 1 ≤ w.2 ∧ (e.tx T.who).state = 1 ∧ mget e.t.wait w.2 = none
 put : ∀ i w, T = .put i w → (e.tx i).state = 0 ∧ keyOk w.1 ∧ valOk w.2 ∧ mget e.t.wait ((i : Int) + 1) = none
 ask : ∀ i key l, T = .ask i key l → (e.tx i).state = 0 ∧ (e.tx i).level = 2 ∧ keyOk key ∧ (∀ j ∈ l, j < e.txs.length) ∧ mget e.t.wait ((i : Int) + 1) = none
structure TabOk (e : Eng) (Q : Int → List Int) : Prop where
 tab : TabR e.t Q
 rk : ∃ r, Rk Q r
 hold : (e.t.hold.map (·.1)).Nodup
 key : ∀ k, ∀ x ∈ Q k, keyOk k ∧ 1 ≤ x ∧ x ≤ e.txs.length
 alive : ∀ k, ∀ x ∈ Q k, (e.tx (x.toNat - 1)).alive = true
 waits : ∀ k, ∀ x ∈ (Q k).tail, (e.tx (x.toNat - 1)).state = 1
structure TxOk (n : Nat) (x : Tx) : Prop where
 state : 0 ≤ x.state ∧ x.state ≤ 3
 refs : ∀ j ∈ x.fore ++ x.aft, j < n
 want : keyOk x.want.1 ∧ valOk x.want.2
 own : ∀ p ∈ x.writes, keyOk p.1 ∧ valOk p.2
 keys : (x.writes.map (·.1)).Nodup
structure OkT (N : Nat) (e : Eng) (T : List Task) : Prop where
 few : e.txs.length ≤ 200
 v10 : e.V.length = 10
 txs : ∀ x ∈ e.txs, TxOk e.txs.length x
 wr : ∀ k v, mget e.wr k = some v → 1 ≤ v ∧ v ≤ e.txs.length ∧ (e.tx (v.toNat - 1)).state = 2
 tab : ∃ Q, TabOk e Q
 all : ∀ j, j < e.txs.length → (e.tx j).state = 1 → mget e.t.wait ((j : Int) + 1) ≠ none ∨ ∃ w, .hand w ∈ T ∧ w.2 = (j : Int) + 1
 six : e.open_ ≤ 6
 cnt : 0 ≤ e.count ∧ e.count + e.open_ ≤ 2 * e.txs.length
 rows : ∀ vs ∈ e.V, (vs.length : Int) ≤ e.count + 1
 wrs : (e.wr.length : Int) ≤ e.count
 last : 0 ≤ e.last ∧ e.last ≤ 1099511627776
 hist : (e.hist.length : Int) ≤ e.count * ((N : Int) + 10)
 reads : ∀ x ∈ e.txs, x.reads.length ≤ N
 fits : ∀ x ∈ e.txs, x.fore.length + 200 * e.many Tx.waits + slacks T ≤ N ∧ x.aft.length + 200 * e.many Tx.waits + slacks T ≤ N
 ok : ∀ t ∈ T, t.ok e
 apart : (T.map Task.who).Nodup
theorem OkT.start : OkT 10 Eng.zero [] := by
 refine ⟨by simp [Eng.zero], by simp [Eng.zero], by simp [Eng.zero], by simp [Eng.zero, mget_nil], ⟨fun _ => [], TabR.start, ⟨fun _ => 0, by intro k x hx; simp at hx⟩, by simp [Eng.zero], by simp, by simp, by simp⟩, by simp [Eng.zero], by simp [Eng.open_, Eng.zero], by simp [Eng.open_, Eng.zero], ?_, by simp [Eng.zero], by simp [Eng.zero], by simp [Eng.zero], by simp [Eng.zero], by simp [Eng.zero], by simp, by simp⟩
 intro vs hv
 simp only [Eng.zero, List.mem_replicate] at hv
 rw [hv.2]; simp [Eng.zero]
variable {N : Nat} {U : List Task}
theorem OkT.at (h : OkT N e U) (hi : i < e.txs.length) : TxOk e.txs.length (e.tx i) := h.txs _ (Eng.tx_mem hi)
theorem OkT.who_ne {t : Task} (h : OkT N e (t :: U)) : ∀ u ∈ U, u.who ≠ t.who := by
 have := h.apart
 rw [List.map_cons, List.nodup_cons] at this
 intro u hu he
 exact this.1 (List.mem_map.2 ⟨u, hu, he⟩)
theorem Task.ok.upd {t : Task} (h : t.ok e) (hne : t.who ≠ i) (f : Tx → Tx) : t.ok (e.upd i f) := by
 have hx := Eng.upd_ne (e := e) (i := i) (Ne.symm hne) f
 refine ⟨by rw [Eng.upd_len]; exact h.lt, fun w hw => ?_, fun j w hw => ?_, fun j key l hw => ?_⟩
 ·rw [hx]; exact h.hand w hw
 ·subst hw; have := h.put j w rfl; rw [show (e.upd i f).tx j = e.tx j from hx]; exact this
 ·subst hw; have := h.ask j key l rfl; rw [show (e.upd i f).tx j = e.tx j from hx, Eng.upd_len]; exact this
theorem TabOk.upd {Q : Int → List Int} (h : TabOk e Q) (f : Tx → Tx) (ha : ∀ k, ∀ x ∈ Q k, x.toNat - 1 = i → (f (e.tx i)).alive = true) (hw : ∀ k, ∀ x ∈ (Q k).tail, x.toNat - 1 = i → (f (e.tx i)).state = 1) : TabOk (e.upd i f) Q := by
 refine ⟨h.tab, h.rk, h.hold, fun k x hx => by rw [Eng.upd_len]; exact h.key k x hx, fun k x hx => ?_, fun k x hx => ?_⟩
 ·rw [Eng.upd_tx]; split
  ·rename_i hc; rw [← hc.1]; exact ha k x hx hc.1.symm
  ·exact h.alive k x hx
 ·rw [Eng.upd_tx]; split
  ·rename_i hc; rw [← hc.1]; exact hw k x hx hc.1.symm
  ·exact h.waits k x hx
theorem Eng.upd_all {p : Tx → Prop} {f : Tx → Tx} (h : ∀ x ∈ e.txs, p x) (hf : i < e.txs.length → p (f (e.tx i))) : ∀ x ∈ (e.upd i f).txs, p x := by
 intro x hx
 obtain ⟨j, hj, rfl⟩ := Eng.mem_tx hx
 rw [Eng.upd_len] at hj
 rw [Eng.upd_tx]
 split
 ·rename_i hc; rw [← hc.1]; exact hf (by rw [hc.1]; exact hj)
 ·exact h _ (Eng.tx_mem hj)
theorem TabOk.not_wait {Q : Int → List Int} (h : TabOk e Q) {x : Int} (hs : (e.tx (x.toNat - 1)).state ≠ 1) : mget e.t.wait x = none := by
 cases hw : mget e.t.wait x with
 | none => rfl
 | some k => exact absurd (h.waits k x ((h.tab.wait x k).1 hw)) hs
theorem OkT.hand {w : Int × Int} (h : OkT N e (.hand w :: U)) : OkT N (e.opens (w.2.toNat - 1)) (.put (w.2.toNat - 1) (e.tx (w.2.toNat - 1)).want :: U) := by
 have ho := h.ok _ (List.mem_cons_self ..)
 obtain ⟨h1, h2, h3⟩ := ho.hand w rfl
 have hlt := ho.lt
 have hne := h.who_ne
 simp only [Task.who] at h2 hlt hne
 have hw : ((w.2.toNat - 1 : Nat) : Int) + 1 = w.2 := by omega
 have hm1 := Eng.many_upd hlt Tx.alive (fun x => { x with state := 0 })
 have hm2 := Eng.many_upd hlt Tx.waits (fun x => { x with state := 0 })
 have ha : (e.tx (w.2.toNat - 1)).alive = true := by simp [Tx.alive, h2]
 have hb : (e.tx (w.2.toNat - 1)).waits = true := by simp [Tx.waits, h2]
 rw [if_pos ha, if_pos (by simp [Tx.alive])] at hm1
 rw [if_pos hb, if_neg (by simp [Tx.waits])] at hm2
 have hop : (e.opens (w.2.toNat - 1)).open_ = e.open_ := by unfold Eng.many at hm1; unfold Eng.opens Eng.open_; omega
 obtain ⟨Q, hQ⟩ := h.tab
 have hnw : ∀ k, w.2 ∉ (Q k).tail := hQ.tab.none_wait.1 h3
 refine ⟨by unfold Eng.opens; rw [Eng.upd_len]; exact h.few, h.v10, ?_, fun k v hk => ?_, ⟨Q, hQ.upd _ (fun k x hx e1 => by simp [Tx.alive]) (fun k x hx e1 => ?_)⟩, fun j hj hs => ?_, by rw [hop]; exact h.six, by rw [hop]; unfold Eng.opens; rw [Eng.upd_len]; exact h.cnt, h.rows, h.wrs, h.last, h.hist, ?_, ?_, ?_, ?_⟩
 ·unfold Eng.opens
  rw [Eng.upd_len]
  exact Eng.upd_all h.txs fun hi => by have := h.at hi; exact ⟨by simp, this.refs, this.want, this.own, this.keys⟩
 ·obtain ⟨g1, g2, g3⟩ := h.wr k v hk
  unfold Eng.opens
  rw [Eng.upd_len, Eng.upd_ne]
  ·exact ⟨g1, g2, g3⟩
  ·intro e1; rw [← e1, h2] at g3; omega
 ·exfalso
  have := (hQ.key k x (List.mem_of_mem_tail hx)).2.1
  have : x = w.2 := by omega
  subst this; exact hnw k hx
 ·unfold Eng.opens at hj hs
  rw [Eng.upd_len] at hj
  rw [Eng.upd_tx] at hs
  split at hs
  ·simp at hs
  ·rename_i hc
   rcases h.all j hj hs with g | ⟨w', g1, g2⟩
   ·exact .inl g
   ·right
    refine ⟨w', ?_, g2⟩
    rcases List.mem_cons.1 g1 with g1 | g1
    ·cases g1; exact absurd ⟨by omega, hj⟩ hc
    ·exact List.mem_cons_of_mem _ g1
 ·unfold Eng.opens; exact Eng.upd_all (p := fun x => x.reads.length ≤ N) h.reads fun hi => h.reads (e.tx _) (Eng.tx_mem hi)
 ·have hk : slacks (.put (w.2.toNat - 1) (e.tx (w.2.toNat - 1)).want :: U) = slacks (.hand w :: U) + 200 := by simp only [slacks, List.map_cons, List.sum_cons, slack]; omega
  have hmm : (e.opens (w.2.toNat - 1)).many Tx.waits + 1 = e.many Tx.waits := by unfold Eng.opens; omega
  have : ∀ x ∈ e.txs, x.fore.length + 200 * (e.opens (w.2.toNat - 1)).many Tx.waits + slacks (.put (w.2.toNat - 1) (e.tx (w.2.toNat - 1)).want :: U) ≤ N ∧ x.aft.length + 200 * (e.opens (w.2.toNat - 1)).many Tx.waits + slacks (.put (w.2.toNat - 1) (e.tx (w.2.toNat - 1)).want :: U) ≤ N := by
   intro x hx; have := h.fits x hx; rw [hk]; omega
  exact Eng.upd_all (p := fun x => x.fore.length + 200 * (e.opens (w.2.toNat - 1)).many Tx.waits + slacks (.put (w.2.toNat - 1) (e.tx (w.2.toNat - 1)).want :: U) ≤ N ∧ x.aft.length + 200 * (e.opens (w.2.toNat - 1)).many Tx.waits + slacks (.put (w.2.toNat - 1) (e.tx (w.2.toNat - 1)).want :: U) ≤ N) this fun hi => this (e.tx _) (Eng.tx_mem hi)
 ·intro t ht
  rcases List.mem_cons.1 ht with rfl | ht
  ·refine ⟨by simpa [Task.who, Eng.opens, Eng.upd_len] using hlt, by simp, fun i' w' e1 => ?_, by simp⟩
   simp only [Task.put.injEq] at e1
   obtain ⟨rfl, rfl⟩ := e1
   refine ⟨by unfold Eng.opens; rw [Eng.upd_self hlt], (h.at hlt).want.1, (h.at hlt).want.2, ?_⟩
   rw [hw]; exact h3
  ·exact (h.ok t (List.mem_cons_of_mem _ ht)).upd (hne t ht) _
 ·exact h.apart
theorem foldl_drop_nodup : ∀ (ks : List Int) (s : Tbl × List (Int × Int)), (s.1.hold.map (·.1)).Nodup → ((ks.foldl dropStep s).1.hold.map (·.1)).Nodup
 | [], _, h => h
 | k :: ks, s, h => by
  refine foldl_drop_nodup ks _ ?_
  unfold dropStep
  split
  ·exact keys_del_nodup h k
  ·exact keys_put_nodup h k _
theorem tbDrop_nodup {t : Tbl} (h : (t.hold.map (·.1)).Nodup) (tx : Int) : ((tbDrop t tx).1.hold.map (·.1)).Nodup :=
 foldl_drop_nodup _ _ (by rw [strikeT_hold]; exact h)
theorem strikeQ_one {Q : Int → List Int} {tx k : Int} (h : (Q k).head? = some tx) : (strikeQ Q tx k).tail = strike (Q k) tx := by
 rw [← strikeQ_at, if_pos h]
theorem nexts_apart {tx : Int} {Q : Int → List Int} (h1 : ∀ k k' x, x ∈ (strikeQ Q tx k).tail → x ∈ (strikeQ Q tx k').tail → k = k') : ∀ (ks : List Int), ks.Nodup → ((nexts (strikeQ Q tx) ks).map (·.2)).Nodup
 | [], _ => by simp [nexts]
 | k :: ks, hn => by
  rw [List.nodup_cons] at hn
  have ih := nexts_apart h1 ks hn.2
  unfold nexts at ih ⊢
  rw [List.flatMap_cons, List.map_append, List.nodup_append]
  refine ⟨?_, ih, ?_⟩
  ·unfold firstL; split <;> simp
  ·intro a ha b hb e1
   subst e1
   have ha' : a ∈ (strikeQ Q tx k).tail := by
    cases hq : (strikeQ Q tx k).tail with
    | nil => rw [hq] at ha; simp [firstL] at ha
    | cons y l => rw [hq] at ha; simp [firstL] at ha; simp [ha]
   simp only [List.mem_map, List.mem_flatMap] at hb
   obtain ⟨p, ⟨k', hk', hp⟩, rfl⟩ := hb
   have hb' : p.2 ∈ (strikeQ Q tx k').tail := by
    cases hq : (strikeQ Q tx k').tail with
    | nil => rw [hq] at hp; simp [firstL] at hp
    | cons y l => rw [hq] at hp; simp [firstL] at hp; simp [hp]
   have := h1 k k' _ ha' hb'
   subst this; exact hn.1 hk'
structure Heir (Q : Int → List Int) (tx : Int) (p : Int × Int) : Prop where
 head : (Q p.1).head? = some tx
 next : ∃ m, strike (Q p.1) tx = p.2 :: m
theorem heir_iff {t : Tbl} {Q : Int → List Int} (h : TabR t Q) (hn : (t.hold.map (·.1)).Nodup) (tx : Int) (p : Int × Int) : p ∈ (tbDrop t tx).2 ↔ Heir Q tx p := by
 rw [(h.dropped hn tx).2]
 unfold nexts
 rw [List.mem_flatMap]
 constructor
 ·rintro ⟨k, hk, hp⟩
  rw [sortI_mem, holders_mem hn, h.hold k] at hk
  rw [strikeQ_one hk] at hp
  cases hs : strike (Q k) tx with
  | nil => rw [hs] at hp; simp [firstL] at hp
  | cons b m =>
   rw [hs] at hp
   simp only [firstL, List.mem_singleton] at hp
   subst hp
   exact ⟨hk, m, hs⟩
 ·rintro ⟨h1, m, h2⟩
  refine ⟨p.1, by rw [sortI_mem, holders_mem hn, h.hold]; exact h1, ?_⟩
  rw [strikeQ_one h1, h2]
  simp [firstL]
theorem Heir.waits {Q : Int → List Int} {tx : Int} {p : Int × Int} (hp : Heir Q tx p) : p.2 ∈ (Q p.1).tail ∧ p.2 ≠ tx := by
 obtain ⟨h1, m, h2⟩ := hp
 have h3 := strike_mem.1 (by rw [h2]; simp : p.2 ∈ strike (Q p.1) tx)
 refine ⟨?_, h3.2⟩
 cases hq : Q p.1 with
 | nil => rw [hq] at h3; simp at h3
 | cons a l =>
  rw [hq] at h1 h3
  simp only [List.head?_cons, Option.some.injEq] at h1
  rcases List.mem_cons.1 h3.1 with e1 | e1
  ·exact absurd (e1.trans h1) h3.2
  ·exact e1
theorem strike_tail_or {Q : Int → List Int} {tx x k : Int} (hx : x ∈ (Q k).tail) (hne : x ≠ tx) : x ∈ (strike (Q k) tx).tail ∨ Heir Q tx (k, x) := by
 cases hq : Q k with
 | nil => rw [hq] at hx; simp at hx
 | cons a l =>
  rw [hq] at hx
  simp only [List.tail_cons] at hx
  have hxs : x ∈ strike l tx := strike_mem.2 ⟨hx, hne⟩
  by_cases ea : a = tx
  ·subst ea
   cases hs : strike l a with
   | nil => rw [hs] at hxs; simp at hxs
   | cons b m =>
    rw [hs] at hxs
    rcases List.mem_cons.1 hxs with e1 | e1
    ·right; exact ⟨by rw [hq]; rfl, m, by rw [hq, strike_cons, if_pos rfl, hs, e1]⟩
    ·left; rw [strike_cons, if_pos rfl, hs]; exact e1
  ·left; rw [strike_cons, if_neg ea]; exact hxs
theorem OkT.tail {t : Task} (h : OkT N e (t :: U)) (ht : ∀ w, t ≠ .hand w) : OkT N e U := by
 refine ⟨h.few, h.v10, h.txs, h.wr, h.tab, fun j hj hs => ?_, h.six, h.cnt, h.rows, h.wrs, h.last, h.hist, h.reads, fun x hx => ?_, fun t ht => h.ok t (List.mem_cons_of_mem _ ht), ?_⟩
 ·rcases h.all j hj hs with g | ⟨w, g1, g2⟩
  ·exact .inl g
  ·rcases List.mem_cons.1 g1 with g1 | g1
   ·exact absurd g1.symm (ht w)
   ·exact .inr ⟨w, g1, g2⟩
 ·have := h.fits x hx
  simp only [slacks, List.map_cons, List.sum_cons] at this ⊢; omega
 ·have := h.apart
  rw [List.map_cons, List.nodup_cons] at this
  exact this.2
theorem OkT.skipped {key : Int} {l : List Nat} (h : OkT N e (.ask i key (j :: l) :: U)) : OkT N e (.ask i key l :: U) := by
 refine ⟨h.few, h.v10, h.txs, h.wr, h.tab, fun j hj hs => ?_, h.six, h.cnt, h.rows, h.wrs, h.last, h.hist, h.reads, fun x hx => ?_, fun t ht => ?_, h.apart⟩
 ·rcases h.all j hj hs with g | ⟨w, g1, g2⟩
  ·exact .inl g
  ·rcases List.mem_cons.1 g1 with g1 | g1
   ·cases g1
   ·exact .inr ⟨w, List.mem_cons_of_mem _ g1, g2⟩
 ·have := h.fits x hx
  simp only [slacks, List.map_cons, List.sum_cons, slack, List.length_cons] at this ⊢; omega
 ·rcases List.mem_cons.1 ht with rfl | ht
  ·have := h.ok _ (List.mem_cons_self ..)
   refine ⟨this.lt, by simp, by simp, fun i' k' l' e1 => ?_⟩
   simp only [Task.ask.injEq] at e1
   obtain ⟨rfl, rfl, rfl⟩ := e1
   obtain ⟨g1, g2, g3, g4, g5⟩ := this.ask _ _ _ rfl
   exact ⟨g1, g2, g3, fun j hj => g4 j (List.mem_cons_of_mem _ hj), g5⟩
  ·exact h.ok t (List.mem_cons_of_mem _ ht)
theorem OkT.left (h : OkT N e U) (hi : i < e.txs.length) (ha : (e.tx i).alive = true) (hne : ∀ u ∈ U, u.who ≠ i) (why : Int) : OkT N (e.left i why) ((e.heirs i).map .hand ++ U) ∧ (e.left i why).open_ + 1 = e.open_ := by
 obtain ⟨Q, hQ⟩ := h.tab
 obtain ⟨r, hr⟩ := hQ.rk
 have hd := (hQ.tab.dropped hQ.hold ((i : Int) + 1)).1
 have hh := heir_iff hQ.tab hQ.hold ((i : Int) + 1)
 have htx : ∀ j, j ≠ i → (e.left i why).tx j = e.tx j := fun j hj => by
  show (e.mark i why).tx j = _
  rw [Eng.mark_tx, if_neg (fun x => hj x.1.symm)]
 have hlen : (e.left i why).txs.length = e.txs.length := Eng.mark_len e i why
 have hm1 := Eng.many_upd hi Tx.alive (fun x => { x with state := 3, why := why, ended := e.count + 1 })
 have hm2 := Eng.many_upd hi Tx.waits (fun x => { x with state := 3, why := why, ended := e.count + 1 })
 rw [if_pos ha, if_neg (by simp [Tx.alive])] at hm1
 rw [if_neg (show ¬ Tx.waits { e.tx i with state := 3, why := why, ended := e.count + 1 } = true by simp [Tx.waits])] at hm2
 have hop : (e.left i why).open_ + 1 = e.open_ := hm1
 have hwt : (e.left i why).many Tx.waits ≤ e.many Tx.waits := by
  have : (e.left i why).many Tx.waits + (if (e.tx i).waits = true then 1 else 0) = e.many Tx.waits := hm2
  omega
 have hxi : ∀ k, ∀ x ∈ Q k, x ≠ (i : Int) + 1 → x.toNat - 1 ≠ i := fun k x hx hx1 => by have := (hQ.key k x hx).2.1; omega
 have hcnt := h.cnt
 have hwn : ∀ x, mget (e.left i why).t.wait x = none ∨ x ≠ (i : Int) + 1 ∧ ∃ k, x ∈ (Q k).tail := by
  intro x
  cases hg : mget (e.left i why).t.wait x with
  | none => exact .inl rfl
  | some k =>
   right
   have h1 := (hd.wait x k).1 hg
   exact ⟨(strike_mem.1 (List.mem_of_mem_tail h1)).2, k, strike_tail_sub h1⟩
 refine ⟨⟨by rw [hlen]; exact h.few, h.v10, ?_, fun k v hk => ?_, ⟨_, hd, Rk.drop hQ.tab hr _, tbDrop_nodup hQ.hold _, fun k x hx => ?_, fun k x hx => ?_, fun k x hx => ?_⟩, fun j hj hs => ?_, by have := h.six; omega, ?_, fun vs hv => ?_, ?_, h.last, ?_, ?_, ?_, ?_, ?_⟩, hop⟩
 ·rw [hlen]
  refine Eng.upd_all h.txs fun hi => ?_
  have := h.at hi
  exact ⟨by simp, this.refs, this.want, this.own, this.keys⟩
 ·obtain ⟨g1, g2, g3⟩ := h.wr k v hk
  rw [hlen, htx]
  ·exact ⟨g1, g2, g3⟩
  ·intro e1; rw [e1] at g3; simp [Tx.alive, g3] at ha
 ·have h1 := strike_mem.1 hx
  rw [hlen]; exact hQ.key k x h1.1
 ·have h1 := strike_mem.1 hx
  rw [htx _ (hxi k x h1.1 h1.2)]; exact hQ.alive k x h1.1
 ·have h1 := strike_mem.1 (List.mem_of_mem_tail hx)
  rw [htx _ (hxi k x h1.1 h1.2)]; exact hQ.waits k x (strike_tail_sub hx)
 ·have hji : j ≠ i := by
   intro e1; subst e1
   have : ((e.left j why).tx j).state = 3 := by show ((e.mark j why).tx j).state = 3; rw [Eng.mark_tx, if_pos ⟨rfl, hi⟩]
   omega
  rw [htx j hji] at hs
  rw [hlen] at hj
  rcases h.all j hj hs with g | ⟨w, g1, g2⟩
  ·cases hwj : mget e.t.wait ((j : Int) + 1) with
   | none => exact absurd hwj g
   | some k =>
    have h1 := (hQ.tab.wait _ k).1 hwj
    rcases strike_tail_or h1 (by omega : (j : Int) + 1 ≠ (i : Int) + 1) with h2 | h2
    ·left
     rw [show mget (e.left i why).t.wait ((j : Int) + 1) = some k from (hd.wait _ k).2 h2]; simp
    ·right
     exact ⟨(k, (j : Int) + 1), by simp only [List.mem_append, List.mem_map]; exact .inl ⟨_, (hh _).2 h2, rfl⟩, rfl⟩
  ·exact .inr ⟨w, List.mem_append_right _ g1, g2⟩
 ·have : (e.left i why).count = e.count + 1 := rfl
  rw [hlen, this]; omega
 ·have := h.rows vs hv
  show _ ≤ e.count + 1 + 1
  omega
 ·have := h.wrs
  show _ ≤ e.count + 1
  exact Int.le_trans this (by omega)
 ·have := h.hist
  show _ ≤ (e.count + 1) * ((N : Int) + 10)
  refine Int.le_trans this ?_
  rw [Int.add_mul]; omega
 ·exact Eng.upd_all (p := fun x => x.reads.length ≤ N) h.reads fun hi => h.reads (e.tx i) (Eng.tx_mem hi)
 ·have hsl : slacks ((e.heirs i).map .hand ++ U) = slacks U := by
   unfold slacks
   rw [List.map_append, List.sum_append, List.map_map]
   have : ((e.heirs i).map (slack ∘ Task.hand)).sum = 0 := by
    generalize e.heirs i = l
    induction l with
    | nil => rfl
    | cons p l ih => simpa [slack] using ih
   omega
  rw [hsl]
  have : ∀ x ∈ e.txs, x.fore.length + 200 * (e.left i why).many Tx.waits + slacks U ≤ N ∧ x.aft.length + 200 * (e.left i why).many Tx.waits + slacks U ≤ N := by
   intro x hx; have := h.fits x hx; omega
  exact Eng.upd_all (p := fun x => x.fore.length + 200 * (e.left i why).many Tx.waits + slacks U ≤ N ∧ x.aft.length + 200 * (e.left i why).many Tx.waits + slacks U ≤ N) this fun hi => this (e.tx i) (Eng.tx_mem hi)
 ·intro t ht
  rcases List.mem_append.1 ht with ht | ht
  ·simp only [List.mem_map] at ht
   obtain ⟨p, hp, rfl⟩ := ht
   have hp' := (hh p).1 hp
   obtain ⟨h1, h2⟩ := hp'.waits
   have hk := hQ.key _ _ (List.mem_of_mem_tail h1)
   have hs := hQ.waits _ _ h1
   have hx := hxi _ _ (List.mem_of_mem_tail h1) h2
   refine ⟨by rw [hlen]; simp only [Task.who]; omega, fun w hw => ?_, by simp, by simp⟩
   simp only [Task.hand.injEq] at hw
   subst hw
   refine ⟨hk.2.1, by simp only [Task.who]; rw [htx _ hx]; exact hs, ?_⟩
   cases hg : mget (e.left i why).t.wait p.2 with
   | none => rfl
   | some k =>
    exfalso
    have h3 := (hd.wait _ k).1 hg
    have := hQ.tab.one h1 (strike_tail_sub h3)
    subst this
    obtain ⟨m, hm⟩ := hp'.next
    have hnd := hd.nod p.1
    rw [hm] at h3 hnd
    rw [List.nodup_cons] at hnd
    exact hnd.1 h3
  ·have ho := h.ok t ht
   have hti := hne t ht
   refine ⟨by rw [hlen]; exact ho.lt, fun w hw => ?_, fun i' w hw => ?_, fun i' key l hw => ?_⟩
   ·obtain ⟨g1, g2, g3⟩ := ho.hand w hw
    refine ⟨g1, by rw [htx _ hti]; exact g2, ?_⟩
    rcases hwn w.2 with g | ⟨_, k, hk⟩
    ·exact g
    ·rw [(hQ.tab.wait _ k).2 hk] at g3; cases g3
   ·subst hw
    obtain ⟨g1, g2, g3, g4⟩ := ho.put i' w rfl
    have hti' : i' ≠ i := hti
    refine ⟨by rw [htx _ hti']; exact g1, g2, g3, ?_⟩
    rcases hwn ((i' : Int) + 1) with g | ⟨_, k, hk⟩
    ·exact g
    ·rw [(hQ.tab.wait _ k).2 hk] at g4; cases g4
   ·subst hw
    obtain ⟨g1, g2, g3, g4, g5⟩ := ho.ask i' key l rfl
    have hti' : i' ≠ i := hti
    refine ⟨by rw [htx _ hti']; exact g1, by rw [htx _ hti']; exact g2, g3, by rw [hlen]; exact g4, ?_⟩
    rcases hwn ((i' : Int) + 1) with g | ⟨_, k, hk⟩
    ·exact g
    ·rw [(hQ.tab.wait _ k).2 hk] at g5; cases g5
 ·rw [List.map_append, List.map_map, List.nodup_append]
  have h1 : ∀ p ∈ e.heirs i, p.2 ∈ (Q p.1).tail ∧ 1 ≤ p.2 := fun p hp => by
   have := ((hh p).1 hp).waits
   exact ⟨this.1, (hQ.key _ _ (List.mem_of_mem_tail this.1)).2.1⟩
  refine ⟨?_, h.apart, ?_⟩
  ·have hn : ((e.heirs i).map (·.2)).Nodup := by
    unfold Eng.heirs
    rw [(hQ.tab.dropped hQ.hold ((i : Int) + 1)).2]
    refine nexts_apart (fun k k' x hx hx' => ?_) _ ((sortI_perm _).nodup_iff.2 (holders_nodup hQ.hold))
    rw [strikeQ_tail] at hx hx'
    exact hQ.tab.one (strike_mem.1 hx).1 (strike_mem.1 hx').1
   have he : (e.heirs i).map (Task.who ∘ Task.hand) = ((e.heirs i).map (·.2)).map fun x : Int => x.toNat - 1 := by
    rw [List.map_map]; rfl
   rw [he]
   have hpos : ∀ x ∈ (e.heirs i).map (·.2), 1 ≤ x := fun x hx => by
    obtain ⟨p, hp, rfl⟩ := List.mem_map.1 hx
    exact (h1 p hp).2
   generalize (e.heirs i).map (·.2) = l at hn hpos
   induction l with
   | nil => simp
   | cons a l ih =>
    rw [List.nodup_cons] at hn
    rw [List.map_cons, List.nodup_cons]
    refine ⟨fun hm => ?_, ih hn.2 fun x hx => hpos x (List.mem_cons_of_mem _ hx)⟩
    obtain ⟨c, hc, e1⟩ := List.mem_map.1 hm
    have := hpos a (List.mem_cons_self ..)
    have := hpos c (List.mem_cons_of_mem _ hc)
    exact hn.1 (by rw [show a = c by omega]; exact hc)
  ·intro a ha c hc e1
   simp only [List.mem_map, Function.comp] at ha hc
   obtain ⟨p, hp, rfl⟩ := ha
   obtain ⟨u, hu, rfl⟩ := hc
   simp only [Task.who] at e1
   have hs := hQ.waits _ _ (h1 p hp).1
   have hp1 := (h1 p hp).2
   have ho := h.ok u hu
   cases u with
   | hand w =>
    obtain ⟨g1, g2, g3⟩ := ho.hand w rfl
    have e2 : p.2.toNat - 1 = w.2.toNat - 1 := e1
    have : p.2 = w.2 := by omega
    rw [← this, (hQ.tab.wait _ _).2 (h1 p hp).1] at g3; cases g3
   | put i' w => have := (ho.put i' w rfl).1; have e2 : p.2.toNat - 1 = i' := e1; rw [e2, this] at hs; omega
   | ask i' key l => have := (ho.ask i' key l rfl).1; have e2 : p.2.toNat - 1 = i' := e1; rw [e2, this] at hs; omega
theorem OkT.wput {w : Int × Int} (h : OkT N e (.put i w :: U)) : OkT N (e.wput i w) U ∧ ((e.tx i).level = 2 → OkT N (e.wput i w) (.ask i w.1 (List.range e.txs.length) :: U)) := by
 have ho := h.ok _ (List.mem_cons_self ..)
 obtain ⟨h1, h2, h3, h4⟩ := ho.put i w rfl
 have hlt : i < e.txs.length := ho.lt
 have hne := h.who_ne
 simp only [Task.who] at hne
 have ht := h.tail (by simp)
 obtain ⟨Q, hQ⟩ := h.tab
 have hlen : (e.wput i w).txs.length = e.txs.length := Eng.upd_len ..
 have hop : (e.wput i w).open_ = e.open_ := Eng.many_keep Tx.alive _ fun _ => rfl
 have hwt : (e.wput i w).many Tx.waits = e.many Tx.waits := Eng.many_keep Tx.waits _ fun _ => rfl
 have hst : ∀ j, ((e.wput i w).tx j).state = (e.tx j).state := Eng.upd_keep (·.state) _ fun _ => rfl
 have hlv : ∀ j, ((e.wput i w).tx j).level = (e.tx j).level := Eng.upd_keep (·.level) _ fun _ => rfl
 have hput : ∀ p ∈ mput (e.tx i).writes w.1 w.2, keyOk p.1 ∧ valOk p.2 := by
  intro p hp
  have g := (h.at hlt).own
  unfold mput at hp
  split at hp
  ·simp only [List.mem_map] at hp
   obtain ⟨q, hq, rfl⟩ := hp
   split
   ·exact ⟨h2, h3⟩
   ·exact g q hq
  ·rcases List.mem_append.1 hp with hp | hp
   ·exact g p hp
   ·simp only [List.mem_singleton] at hp; subst hp; exact ⟨h2, h3⟩
 have hok : ∀ t ∈ U, t.ok (e.wput i w) := fun t ht => (h.ok t (List.mem_cons_of_mem _ ht)).upd (hne t ht) _
 have key : ∀ T, (∀ j, j < e.txs.length → (e.tx j).state = 1 → mget e.t.wait ((j : Int) + 1) ≠ none ∨ ∃ w, .hand w ∈ T ∧ w.2 = (j : Int) + 1) → slacks T ≤ slacks (.put i w :: U) → (∀ t ∈ T, t.ok (e.wput i w)) → (T.map Task.who).Nodup → OkT N (e.wput i w) T := by
  intro T ha hsl hk hn
  refine ⟨by rw [hlen]; exact h.few, h.v10, ?_, fun k v hk => ?_, ⟨Q, hQ.upd _ (fun k x hx e1 => ?_) (fun k x hx e1 => ?_)⟩, fun j hj hs => ?_, by rw [hop]; exact h.six, by rw [hop, hlen]; exact h.cnt, h.rows, h.wrs, h.last, h.hist, ?_, ?_, hk, hn⟩
  ·rw [hlen]
   refine Eng.upd_all h.txs fun hi => ?_
   have := h.at hi
   exact ⟨this.state, this.refs, this.want, hput, keys_put_nodup this.keys _ _⟩
  ·rw [hlen, hst]; exact h.wr k v hk
  ·have := hQ.alive k x hx; rw [e1] at this; exact this
  ·have := hQ.waits k x hx; rw [e1] at this; exact this
  ·rw [hst] at hs; rw [hlen] at hj; exact ha j hj hs
  ·exact Eng.upd_all (p := fun x => x.reads.length ≤ N) h.reads fun hi => h.reads (e.tx i) (Eng.tx_mem hi)
  ·rw [hwt]
   have : ∀ x ∈ e.txs, x.fore.length + 200 * e.many Tx.waits + slacks T ≤ N ∧ x.aft.length + 200 * e.many Tx.waits + slacks T ≤ N := by
    intro x hx; have := h.fits x hx; omega
   exact Eng.upd_all (p := fun x => x.fore.length + 200 * e.many Tx.waits + slacks T ≤ N ∧ x.aft.length + 200 * e.many Tx.waits + slacks T ≤ N) this fun hi => this (e.tx i) (Eng.tx_mem hi)
 refine ⟨key U ht.all ?_ hok ht.apart, fun hl2 => key _ (fun j hj hs => ?_) ?_ (fun t ht => ?_) h.apart⟩
 ·simp only [slacks, List.map_cons, List.sum_cons]; omega
 ·rcases ht.all j hj hs with g | ⟨w, g1, g2⟩
  ·exact .inl g
  ·exact .inr ⟨w, List.mem_cons_of_mem _ g1, g2⟩
 ·have := h.few
  simp only [slacks, List.map_cons, List.sum_cons, slack, List.length_range]; omega
 ·rcases List.mem_cons.1 ht with rfl | ht
  ·refine ⟨by rw [hlen]; exact hlt, by simp, by simp, fun i' k' l' e1 => ?_⟩
   simp only [Task.ask.injEq] at e1
   obtain ⟨rfl, rfl, rfl⟩ := e1
   exact ⟨by rw [hst]; exact h1, by rw [hlv]; exact hl2, h2, fun j hj => by rw [hlen]; exact List.mem_range.1 hj, h4⟩
  ·exact hok t ht
theorem OkT.note_gen {U' : List Task} {M : Nat} (h : OkT N e U) (hj : j < e.txs.length) (hlt : i < e.txs.length) (hNM : N ≤ M) (hall : ∀ j, j < e.txs.length → (e.tx j).state = 1 → mget e.t.wait ((j : Int) + 1) ≠ none ∨ ∃ w, .hand w ∈ U' ∧ w.2 = (j : Int) + 1)
  (hsl : slacks U' + 1 + N ≤ slacks U + M) (hoks : ∀ t ∈ U', t.ok e) (hap : (U'.map Task.who).Nodup) : OkT M (e.note j i) U' := by
 obtain ⟨Q, hQ⟩ := h.tab
 have hlen : (e.note j i).txs.length = e.txs.length := Eng.note_len ..
 have hst : ∀ k, ((e.note j i).tx k).state = (e.tx k).state := Eng.note_keep (·.state) (fun _ _ => rfl) (fun _ _ => rfl) j i
 have hlv : ∀ k, ((e.note j i).tx k).level = (e.tx k).level := Eng.note_keep (·.level) (fun _ _ => rfl) (fun _ _ => rfl) j i
 have hal : ∀ k, ((e.note j i).tx k).alive = (e.tx k).alive := Eng.note_keep Tx.alive (fun _ _ => rfl) (fun _ _ => rfl) j i
 have hmany : ∀ p : Tx → Bool, (∀ x l, p { x with aft := l } = p x) → (∀ x l, p { x with fore := l } = p x) → (e.note j i).many p = e.many p := fun p h1 h2 => by
  unfold Eng.note
  rw [Eng.many_keep p _ (fun x => h2 x _), Eng.many_keep p _ (fun x => h1 x _)]
 have hop : (e.note j i).open_ = e.open_ := hmany Tx.alive (fun _ _ => rfl) (fun _ _ => rfl)
 have hwt : (e.note j i).many Tx.waits = e.many Tx.waits := hmany Tx.waits (fun _ _ => rfl) (fun _ _ => rfl)
 have hok : ∀ t : Task, t.ok e → t.ok (e.note j i) := fun t ht => by
  refine ⟨by rw [hlen]; exact ht.lt, fun w hw => ?_, fun i' w hw => ?_, fun i' key l hw => ?_⟩
  ·rw [hst]; exact ht.hand w hw
  ·rw [hst]; exact ht.put i' w hw
  ·rw [hst, hlv, hlen]; exact ht.ask i' key l hw
 refine ⟨by rw [hlen]; exact h.few, h.v10, ?_, fun k v hk => by rw [hlen, hst]; exact h.wr k v hk, ⟨Q, ⟨hQ.tab, hQ.rk, hQ.hold, by rw [hlen]; exact hQ.key, fun k x hx => by rw [hal]; exact hQ.alive k x hx, fun k x hx => by rw [hst]; exact hQ.waits k x hx⟩⟩, fun j hj hs' => by rw [hst] at hs'; rw [hlen] at hj; exact hall j hj hs', by rw [hop]; exact h.six, by rw [hop, hlen]; exact h.cnt, h.rows, h.wrs, h.last, ?_, ?_, ?_, fun t ht => hok t (hoks t ht), hap⟩
 ·rw [hlen]
  unfold Eng.note
  refine Eng.upd_all (Eng.upd_all h.txs fun hi => ?_) fun hi => ?_
  ·have := h.at hi
   refine ⟨this.state, fun k hk => ?_, this.want, this.own, this.keys⟩
   simp only [List.mem_append, List.mem_singleton] at hk
   rcases hk with hk | hk | rfl
   ·exact this.refs k (by simp [hk])
   ·exact this.refs k (by simp [hk])
   ·exact hlt
  ·have hx : TxOk e.txs.length ((e.upd j fun x => { x with aft := x.aft ++ [i] }).tx i) := by
    have hm := Eng.tx_mem (e := e.upd j fun x => { x with aft := x.aft ++ [i] }) hi
    refine Eng.upd_all h.txs (fun hj' => ?_) _ hm
    have := h.at hj'
    refine ⟨this.state, fun k hk => ?_, this.want, this.own, this.keys⟩
    simp only [List.mem_append, List.mem_singleton] at hk
    rcases hk with hk | hk | rfl
    ·exact this.refs k (by simp [hk])
    ·exact this.refs k (by simp [hk])
    ·exact hlt
   refine ⟨hx.state, fun k hk => ?_, hx.want, hx.own, hx.keys⟩
   simp only [List.mem_append, List.mem_singleton] at hk
   rcases hk with (hk | rfl) | hk
   ·exact hx.refs k (by simp [hk])
   ·exact hj
   ·exact hx.refs k (by simp [hk])
 ·refine Int.le_trans h.hist (Int.mul_le_mul_of_nonneg_left ?_ h.cnt.1)
  omega
 ·unfold Eng.note
  have hr : ∀ x ∈ e.txs, x.reads.length ≤ M := fun x hx => Nat.le_trans (h.reads x hx) hNM
  refine Eng.upd_all (p := fun x => x.reads.length ≤ M) (Eng.upd_all (p := fun x => x.reads.length ≤ M) hr fun hi => hr (e.tx j) (Eng.tx_mem hi)) fun hi => ?_
  have := Eng.upd_keep (e := e) (i := j) (fun x => x.reads.length) (fun x => { x with aft := x.aft ++ [i] }) (fun _ => rfl) i
  show ((e.upd j fun x => { x with aft := x.aft ++ [i] }).tx i).reads.length ≤ M
  rw [this]
  exact hr _ (Eng.tx_mem hlt)
 ·rw [hwt]
  intro x hx
  obtain ⟨m, hm, rfl⟩ := Eng.mem_tx hx
  rw [hlen] at hm
  have hf := h.fits _ (Eng.tx_mem hm)
  unfold Eng.note
  have e1 : ((e.upd j fun x => { x with aft := x.aft ++ [i] }).upd i fun x => { x with fore := x.fore ++ [j] }).txs.length = e.txs.length := by simp [Eng.upd]
  have hfl : (((e.upd j fun x => { x with aft := x.aft ++ [i] }).upd i fun x => { x with fore := x.fore ++ [j] }).tx m).fore.length ≤ (e.tx m).fore.length + 1 := by
   rw [Eng.upd_tx]
   split
   ·have := Eng.upd_keep (e := e) (i := j) (·.fore) (fun x => { x with aft := x.aft ++ [i] }) (fun _ => rfl) m
    simp only [List.length_append, List.length_singleton]
    rw [this]; omega
   ·have := Eng.upd_keep (e := e) (i := j) (·.fore) (fun x => { x with aft := x.aft ++ [i] }) (fun _ => rfl) m
    rw [this]; omega
  have hal : (((e.upd j fun x => { x with aft := x.aft ++ [i] }).upd i fun x => { x with fore := x.fore ++ [j] }).tx m).aft.length ≤ (e.tx m).aft.length + 1 := by
   have := Eng.upd_keep (e := e.upd j fun x => { x with aft := x.aft ++ [i] }) (i := i) (·.aft) (fun x => { x with fore := x.fore ++ [j] }) (fun _ => rfl) m
   rw [this, Eng.upd_tx]
   split
   ·simp
   ·omega
  omega
theorem OkT.noted {key : Int} {l : List Nat} (h : OkT N e (.ask i key (j :: l) :: U)) : OkT N (e.note j i) (.ask i key l :: U) := by
 have ho := h.ok _ (List.mem_cons_self ..)
 obtain ⟨h1, h2, h3, h4, h5⟩ := ho.ask i key _ rfl
 have hs := h.skipped
 refine h.note_gen (h4 j (List.mem_cons_self ..)) ho.lt (Nat.le_refl _) hs.all ?_ hs.ok hs.apart
 simp only [slacks, List.map_cons, List.sum_cons, slack, List.length_cons]; omega
theorem OkT.note1 (h : OkT N e U) (hj : j < e.txs.length) (hlt : i < e.txs.length) : OkT (N + 1) (e.note j i) U :=
 h.note_gen hj hlt (by omega) h.all (by omega) h.ok h.apart
theorem OkT.mono {M : Nat} (h : OkT N e U) (hM : N ≤ M) : OkT M e U := by
 refine ⟨h.few, h.v10, h.txs, h.wr, h.tab, h.all, h.six, h.cnt, h.rows, h.wrs, h.last, ?_, fun x hx => Nat.le_trans (h.reads x hx) hM, fun x hx => ?_, h.ok, h.apart⟩
 ·exact Int.le_trans h.hist (Int.mul_le_mul_of_nonneg_left (by omega) h.cnt.1)
 ·have := h.fits x hx; omega
theorem Eng.note_open (e : Eng) (a b : Nat) : (e.note a b).open_ = e.open_ := by
 unfold Eng.note
 exact (Eng.many_keep Tx.alive (fun x => { x with fore := x.fore ++ [a] }) fun _ => rfl).trans (Eng.many_keep Tx.alive (fun x => { x with aft := x.aft ++ [b] }) fun _ => rfl)
def GoesOk (n : Nat) : Prop := ∀ (N : Nat) (e : Eng) (i : Nat) (why : Int) (U : List Task), OkT N e U → i < e.txs.length → (e.tx i).alive = true → (∀ u ∈ U, u.who ≠ i) → e.open_ ≤ n →
 OkT N (goesN n e i why) U ∧ (goesN n e i why).open_ ≤ e.open_ ∧ ∀ e', Runs (goesN n e i why) U e' → Runs (e.left i why) ((e.heirs i).map .hand ++ U) e'
section
variable {n : Nat}
theorem putsL_ok (hg : GoesOk n) {key : Int} : ∀ (l : List Nat) (N : Nat) (e : Eng) (U : List Task), OkT N e (.ask i key l :: U) → e.open_ ≤ n →
  OkT N (putsL (goesN n) i key l e) U ∧ (putsL (goesN n) i key l e).open_ ≤ e.open_ ∧ ∀ e', Runs (putsL (goesN n) i key l e) U e' → Runs e (.ask i key l :: U) e'
 | [], N, e, U, h, ho => ⟨h.tail (by simp), Nat.le_refl _, fun e' hr => .asked hr⟩
 | j :: l, N, e, U, h, ho => by
  unfold putsL
  by_cases hs : skips e i key j = true
  ·rw [if_pos hs]
   obtain ⟨h1, h2, h3⟩ := putsL_ok hg l N e U h.skipped ho
   exact ⟨h1, h2, fun e' hr => .skip hs (h3 e' hr)⟩
  ·rw [if_neg hs]
   have hs' : skips e i key j = false := by simpa using hs
   have hn := h.noted
   have hop := Eng.note_open e j i
   by_cases hb : (e.note j i).bad j i = true
   ·simp only [hb, if_true]
    have hk := hn.ok _ (List.mem_cons_self ..)
    have hst := (hk.ask i key l rfl).1
    obtain ⟨h1, h2, h3⟩ := hg N (e.note j i) i 13 U (hn.tail (by simp)) hk.lt (by simp [Tx.alive, hst]) hn.who_ne (by omega)
    exact ⟨h1, by omega, fun e' hr => .wrong hs' hb (h3 e' hr)⟩
   ·have hb' : (e.note j i).bad j i = false := by simpa using hb
    simp only [hb', Bool.false_eq_true, if_false]
    obtain ⟨h1, h2, h3⟩ := putsL_ok hg l N (e.note j i) U hn (by omega)
    exact ⟨h1, by omega, fun e' hr => .note hs' hb' (h3 e' hr)⟩
theorem putsG_ok (hg : GoesOk n) {N : Nat} {e : Eng} {U : List Task} {w : Int × Int} (h : OkT N e (.put i w :: U)) (ho : e.open_ ≤ n) :
  OkT N (putsG (goesN n) e i w) U ∧ (putsG (goesN n) e i w).open_ ≤ e.open_ ∧ ∀ e', Runs (putsG (goesN n) e i w) U e' → Runs e (.put i w :: U) e' := by
 have hk := h.ok _ (List.mem_cons_self ..)
 have hst := (hk.put i w rfl).1
 unfold putsG
 by_cases hl : e.late i w.1
 ·rw [if_pos hl]
  obtain ⟨h1, h2, h3⟩ := hg N e i 10 U (h.tail (by simp)) hk.lt (by simp [Tx.alive, hst]) h.who_ne ho
  exact ⟨h1, h2, fun e' hr => .late hl (h3 e' hr)⟩
 ·rw [if_neg hl]
  obtain ⟨g1, g2⟩ := h.wput
  have hop : (e.wput i w).open_ = e.open_ := Eng.many_keep Tx.alive _ fun _ => rfl
  by_cases h2 : (e.tx i).level = 2
  ·rw [if_pos h2]
   obtain ⟨h3, h4, h5⟩ := putsL_ok hg _ N (e.wput i w) U (g2 h2) (by omega)
   exact ⟨h3, by rw [← hop]; exact h4, fun e' hr => .puts hl h2 (h5 e' hr)⟩
  ·rw [if_neg h2]
   exact ⟨g1, Nat.le_of_eq hop, fun e' hr => .put hl h2 hr⟩
theorem freesL_ok (hg : GoesOk n) : ∀ (l : List (Int × Int)) (N : Nat) (e : Eng) (U : List Task), OkT N e (l.map .hand ++ U) → e.open_ ≤ n →
  OkT N (freesL (goesN n) l e) U ∧ (freesL (goesN n) l e).open_ ≤ e.open_ ∧ ∀ e', Runs (freesL (goesN n) l e) U e' → Runs e (l.map .hand ++ U) e'
 | [], N, e, U, h, ho => ⟨h, Nat.le_refl _, fun e' hr => hr⟩
 | w :: l, N, e, U, h, ho => by
  have hh := OkT.hand (U := l.map .hand ++ U) h
  have hk := h.ok (.hand w) (by simp)
  have hop : (e.opens (w.2.toNat - 1)).open_ = e.open_ := by
   have hlt : w.2.toNat - 1 < e.txs.length := hk.lt
   have hs : (e.tx (w.2.toNat - 1)).state = 1 := (hk.hand w rfl).2.1
   have := Eng.many_upd hlt Tx.alive (fun x => { x with state := 0 })
   rw [if_pos (by simp [Tx.alive, hs]), if_pos (by simp [Tx.alive])] at this
   unfold Eng.opens Eng.open_; unfold Eng.many at this; omega
  have hwant : ((e.opens (w.2.toNat - 1)).tx (w.2.toNat - 1)).want = (e.tx (w.2.toNat - 1)).want := Eng.upd_keep (·.want) (fun x => { x with state := 0 }) (fun _ => rfl) _
  unfold freesL
  rw [hwant]
  obtain ⟨h1, h2, h3⟩ := putsG_ok hg hh (by omega)
  obtain ⟨h4, h5, h6⟩ := freesL_ok hg l N _ U h1 (by omega)
  exact ⟨h4, by omega, fun e' hr => .hand (h3 e' (h6 e' hr))⟩
end
theorem goesOk : ∀ n, GoesOk n
 | 0 => fun N e i why U h hi ha hne ho => by
  have : 1 ≤ e.open_ := Eng.many_pos hi ha
  omega
 | n + 1 => fun N e i why U h hi ha hne ho => by
  obtain ⟨h1, h2⟩ := h.left hi ha hne why
  obtain ⟨h3, h4, h5⟩ := freesL_ok (goesOk n) (e.heirs i) N (e.left i why) U h1 (by omega)
  exact ⟨h3, by show (freesL (goesN n) (e.heirs i) (e.left i why)).open_ ≤ _; omega, fun e' hr => h5 e' hr⟩
end Go.Proofs.YtmfngjclccehaaaGreatDoor
