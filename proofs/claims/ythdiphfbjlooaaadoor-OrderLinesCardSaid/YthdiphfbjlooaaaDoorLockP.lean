/- The program's table of locks: what its memory is. -/
import Derived.Test.YthdiphfbjlooaaaDoorWords3
import Derived.Test.YthdiphfbjlooaaaDoorMaps
namespace Go.Sep
open Go Go.RowKit

section plain
variable {κ ν μ : Type} [DecidableEq κ]
theorem mget_map (f : ν → μ) (D : List (κ × ν)) (k : κ) : mget (D.map fun p => (p.1, f p.2)) k = (mget D k).map f := by
  induction D with
  | nil => rfl
  | cons d D ih => simp only [List.map_cons, mget_cons, ih]; split <;> simp
theorem mput_map (f : ν → μ) (D : List (κ × ν)) (k : κ) (v : ν) : mput (D.map fun p => (p.1, f p.2)) k (f v) = (mput D k v).map fun p => (p.1, f p.2) := by
  unfold mput
  rw [mget_map]
  simp only [Option.isSome_map]
  split
  · rw [List.map_map, List.map_map]
    apply List.map_congr_left
    intro d _
    simp only [Function.comp]
    split <;> rfl
  · simp
theorem mdel_map (f : ν → μ) (D : List (κ × ν)) (k : κ) : mdel (D.map fun p => (p.1, f p.2)) k = (mdel D k).map fun p => (p.1, f p.2) := by
  unfold mdel
  rw [List.filter_map]
  rfl
theorem mdel_none {D : List (κ × ν)} {k : κ} (h : mget D k = none) : mdel D k = D := by
  unfold mdel
  rw [List.filter_eq_self]
  intro d hd
  have := mget_none.1 h
  simp only [decide_eq_true_eq]
  intro e
  exact this (List.mem_map.2 ⟨d, hd, e⟩)
theorem mdel_cons (d : κ × ν) (D : List (κ × ν)) (k : κ) : mdel (d :: D) k = if d.1 = k then mdel D k else d :: mdel D k := by
  unfold mdel
  rw [List.filter_cons]
  by_cases h : d.1 = k <;> simp [h]
theorem perm_out {D : List (κ × ν)} (hn : (D.map (·.1)).Nodup) {k : κ} {v : ν} (h : mget D k = some v) : D.Perm ((k, v) :: mdel D k) := by
  induction D with
  | nil => simp [mget_nil] at h
  | cons d D ih =>
    rw [List.map_cons, List.nodup_cons] at hn
    rw [mget_cons] at h
    rw [mdel_cons]
    by_cases hd : d.1 = k
    · rw [if_pos hd] at h ⊢
      have hk : mget D k = none := mget_none.2 (by rw [← hd]; exact hn.1)
      rw [mdel_none hk]
      have : d = (k, v) := by cases d; simp_all
      rw [this]
    · rw [if_neg hd] at h ⊢
      exact ((ih hn.2 h).cons d).trans (List.Perm.swap _ _ _)
theorem perm_put {D : List (κ × ν)} (hn : (D.map (·.1)).Nodup) (k : κ) (v : ν) : (mput D k v).Perm ((k, v) :: mdel D k) := by
  have h1 : mget (mput D k v) k = some v := by rw [mget_put]; simp
  have h2 : mdel (mput D k v) k = mdel D k := by
    unfold mput
    split
    · unfold mdel
      rw [List.filter_map]
      have e : ((fun d : κ × ν => decide (d.1 ≠ k)) ∘ fun d => if d.1 = k then (k, v) else d) = fun d => decide (d.1 ≠ k) := by
        funext d
        simp only [Function.comp]
        by_cases h : d.1 = k <;> simp [h]
      rw [e]
      conv => rhs; rw [← List.map_id (List.filter _ D)]
      apply List.map_congr_left
      intro d hd
      have := (List.mem_filter.1 hd).2
      simp only [decide_eq_true_eq] at this
      simp [this]
    · unfold mdel
      rw [List.filter_append]
      simp
  have h3 := perm_out (keys_put_nodup hn k v) h1
  rwa [h2] at h3
end plain

/-- Who holds, who waits in line, and for what. -/
structure Tbl where
  hold : List (Int × Int)
  line : List (Int × List Int)
  wait : List (Int × Int)

def ienc (D : List (Int × Int)) : List (Int × Value) := D.map fun p => (p.1, encI p.2)
def lrow (T : TypeId) (p : Int × (Value × List Int)) : HProp := sl T 1 p.2.1 p.2.2.length (icells p.2.2)
/-- The table's cells and maps. -/
def tabM (T b o bh bl bb : Nat) (E : List (Int × (Value × List Int))) (t : Tbl) : HProp :=
  sep (pur (E.map (fun p => (p.1, p.2.2)) = t.line)) (sep (cells b o [.map (some bh), .map (some bl), .map (some bb)]) (sep (mp encI (fun _ => True) bh (ienc t.hold))
    (sep (mp encI (fun _ => True) bb (ienc t.wait)) (sep (mp encI (fun _ => True) bl (E.map fun p => (p.1, p.2.1))) (all (E.map (lrow T)))))))
/-- A table that nobody has asked. -/
def tab0 (b o : Nat) (t : Tbl) : HProp := sep (pur (t = ⟨[], [], []⟩)) (cells b o [.map none, .map none, .map none])
def tabP (T b o : Nat) (t : Tbl) : HProp := fun h => tab0 b o t h ∨ ex (fun bh => ex fun bl => ex fun bb => ex fun E => tabM T b o bh bl bb E t) h

variable {w w0 : World} {L : List HProp} {T b o bh bl bb : Nat} {E : List (Int × (Value × List Int))} {t : Tbl}

theorem S.tab_cases (h : S w0 w (tabP T b o t :: L)) : S w0 w (tab0 b o t :: L) ∨ ∃ bh bl bb E, S w0 w (tabM T b o bh bl bb E t :: L) := by
  rcases S.or_elim h with h | h
  · exact .inl h
  · obtain ⟨bh, h⟩ := h.ex_elim
    obtain ⟨bl, h⟩ := h.ex_elim
    obtain ⟨bb, h⟩ := h.ex_elim
    obtain ⟨E, h⟩ := h.ex_elim
    exact .inr ⟨bh, bl, bb, E, h⟩
theorem S.tab_made (h : S w0 w (tabM T b o bh bl bb E t :: L)) : S w0 w (tabP T b o t :: L) :=
  S.mono (P := ex (fun bh => ex fun bl => ex fun bb => ex fun E => tabM T b o bh bl bb E t)) (.ex_intro bh (.ex_intro bl (.ex_intro bb (.ex_intro E h)))) fun _ p => .inr p
theorem S.tab_zero (h : S w0 w (cells b o [.map none, .map none, .map none] :: L)) : S w0 w (tabP T b o ⟨[], [], []⟩ :: L) :=
  S.mono (P := tab0 b o ⟨[], [], []⟩) (.sep_intro (.pur_intro rfl h)) fun _ p => .inl p
theorem S.tab0_cells (h : S w0 w (tab0 b o t :: L)) : t = ⟨[], [], []⟩ ∧ S w0 w (cells b o [.map none, .map none, .map none] :: L) := h.sep_elim.pur_elim

/-- The parts, each in its place. -/
theorem S.tab_parts (h : S w0 w (tabM T b o bh bl bb E t :: L)) : E.map (fun p => (p.1, p.2.2)) = t.line ∧
    S w0 w (cells b o [.map (some bh), .map (some bl), .map (some bb)] :: mp encI (fun _ => True) bh (ienc t.hold) :: mp encI (fun _ => True) bb (ienc t.wait) :: mp encI (fun _ => True) bl (E.map fun p => (p.1, p.2.1)) :: all (E.map (lrow T)) :: L) := by
  obtain ⟨hp, h⟩ := h.sep_elim.pur_elim
  refine ⟨hp, h.conv ?_⟩
  simp only [all, sep_assoc]
theorem S.tab_join (hp : E.map (fun p => (p.1, p.2.2)) = t.line)
    (h : S w0 w (cells b o [.map (some bh), .map (some bl), .map (some bb)] :: mp encI (fun _ => True) bh (ienc t.hold) :: mp encI (fun _ => True) bb (ienc t.wait) :: mp encI (fun _ => True) bl (E.map fun p => (p.1, p.2.1)) :: all (E.map (lrow T)) :: L)) :
    S w0 w (tabM T b o bh bl bb E t :: L) := by
  refine .sep_intro (.pur_intro hp (h.conv ?_))
  simp only [all, sep_assoc]

theorem ienc_get (D : List (Int × Int)) (k : Int) : mget (ienc D) k = (mget D k).map encI := mget_map encI D k
theorem ienc_put (D : List (Int × Int)) (k v : Int) : mput (ienc D) k (encI v) = ienc (mput D k v) := mput_map encI D k v
theorem ienc_del (D : List (Int × Int)) (k : Int) : mdel (ienc D) k = ienc (mdel D k) := mdel_map encI D k

/-- What a reader sees: the table's three cells, and the maps. -/
theorem S.tab_see (h : S w0 w (tabM T b o bh bl bb E t :: L)) : w.cell? ⟨b, o, none⟩ = some (.map (some bh)) ∧ w.cell? ⟨b, o + 1, none⟩ = some (.map (some bl)) ∧ w.cell? ⟨b, o + 2, none⟩ = some (.map (some bb)) ∧
    MapAt encI (fun _ => True) w bh (ienc t.hold) ∧ MapAt encI (fun _ => True) w bb (ienc t.wait) ∧ MapAt encI (fun _ => True) w bl (E.map fun p => (p.1, p.2.1)) := by
  obtain ⟨_, h⟩ := h.tab_parts
  exact ⟨h.cells_cell 0 rfl, h.cells_cell 1 rfl, h.cells_cell 2 rfl, h.swap.mapAt, h.rot3.mapAt, h.rot4.mapAt⟩
theorem S.tab_keys (h : S w0 w (tabM T b o bh bl bb E t :: L)) : (E.map (·.1)).Nodup ∧ (t.hold.map (·.1)).Nodup ∧ (t.wait.map (·.1)).Nodup := by
  obtain ⟨_, h⟩ := h.tab_parts
  refine ⟨?_, ?_, ?_⟩
  · simpa [List.map_map, Function.comp_def] using h.rot4.nodup
  · simpa [ienc, List.map_map, Function.comp_def] using h.swap.nodup
  · simpa [ienc, List.map_map, Function.comp_def] using h.rot3.nodup

section ops
variable {P : Program} {kt mt e : TypeId}
theorem S.tab_hold_put (K : KeyOk P kt encI (fun _ => True)) (ht : P.underlying mt = some (.map kt e)) (h : S w0 w (tabM T b o bh bl bb E t :: L)) (k v : Int) :
    ∃ w', (Instr.mapUpdate mt (.map (some bh)) (encI k) (encI v)).run P w = .ok () w' ∧ S w0 w' (tabM T b o bh bl bb E { t with hold := mput t.hold k v } :: L) := by
  obtain ⟨hp, h⟩ := h.tab_parts
  obtain ⟨w', hr, h'⟩ := h.swap.put K ht k trivial (encI v)
  rw [ienc_put] at h'
  exact ⟨w', hr, S.tab_join hp h'.swap⟩
theorem S.tab_wait_put (K : KeyOk P kt encI (fun _ => True)) (ht : P.underlying mt = some (.map kt e)) (h : S w0 w (tabM T b o bh bl bb E t :: L)) (k v : Int) :
    ∃ w', (Instr.mapUpdate mt (.map (some bb)) (encI k) (encI v)).run P w = .ok () w' ∧ S w0 w' (tabM T b o bh bl bb E { t with wait := mput t.wait k v } :: L) := by
  obtain ⟨hp, h⟩ := h.tab_parts
  obtain ⟨w', hr, h'⟩ := h.rot3.put K ht k trivial (encI v)
  rw [ienc_put] at h'
  exact ⟨w', hr, S.tab_join (t := { t with wait := mput t.wait k v }) hp h'.rot3.rot3⟩
theorem S.tab_hold_del (K : KeyOk P kt encI (fun _ => True)) {ty : TypeId} (ht : P.underlying mt = some (.map kt e)) (h : S w0 w (tabM T b o bh bl bb E t :: L)) (k : Int) :
    ∃ w', (Builtin.delete_ #[mt, kt] ty #[.map (some bh), encI k]).run P w = .ok (.tuple #[]) w' ∧ S w0 w' (tabM T b o bh bl bb E { t with hold := mdel t.hold k } :: L) := by
  obtain ⟨hp, h⟩ := h.tab_parts
  obtain ⟨w', hr, h'⟩ := h.swap.del K (ty := ty) ht k trivial
  rw [ienc_del] at h'
  exact ⟨w', hr, S.tab_join hp h'.swap⟩
theorem S.tab_wait_del (K : KeyOk P kt encI (fun _ => True)) {ty : TypeId} (ht : P.underlying mt = some (.map kt e)) (h : S w0 w (tabM T b o bh bl bb E t :: L)) (k : Int) :
    ∃ w', (Builtin.delete_ #[mt, kt] ty #[.map (some bb), encI k]).run P w = .ok (.tuple #[]) w' ∧ S w0 w' (tabM T b o bh bl bb E { t with wait := mdel t.wait k } :: L) := by
  obtain ⟨hp, h⟩ := h.tab_parts
  obtain ⟨w', hr, h'⟩ := h.rot3.del K (ty := ty) ht k trivial
  rw [ienc_del] at h'
  exact ⟨w', hr, S.tab_join (t := { t with wait := mdel t.wait k }) hp h'.rot3.rot3⟩

/-- A line, taken out of the table (where there is none: an empty one). 'tabX': the table without it. -/
def lineOf (E : List (Int × (Value × List Int))) (k : Int) : Value × List Int := (mget E k).getD (.slice none 0 0, [])
def tabX (T b o bh bl bb : Nat) (E : List (Int × (Value × List Int))) (k : Int) (t : Tbl) : HProp :=
  sep (pur (E.map (fun p => (p.1, p.2.2)) = t.line)) (sep (cells b o [.map (some bh), .map (some bl), .map (some bb)]) (sep (mp encI (fun _ => True) bh (ienc t.hold))
    (sep (mp encI (fun _ => True) bb (ienc t.wait)) (sep (mp encI (fun _ => True) bl (E.map fun p => (p.1, p.2.1))) (all ((mdel E k).map (lrow T)))))))
theorem S.tab_line (h : S w0 w (tabM T b o bh bl bb E t :: L)) (k : Int) : S w0 w (sl T 1 (lineOf E k).1 (lineOf E k).2.length (icells (lineOf E k).2) :: tabX T b o bh bl bb E k t :: L) := by
  have hk := h.tab_keys.1
  obtain ⟨hp, h⟩ := h.tab_parts
  have key : S w0 w (sl T 1 (lineOf E k).1 (lineOf E k).2.length (icells (lineOf E k).2) :: cells b o [.map (some bh), .map (some bl), .map (some bb)] :: mp encI (fun _ => True) bh (ienc t.hold) :: mp encI (fun _ => True) bb (ienc t.wait) :: mp encI (fun _ => True) bl (E.map fun p => (p.1, p.2.1)) :: all ((mdel E k).map (lrow T)) :: L) := by
    cases hg : mget E k with
    | none =>
      unfold lineOf
      rw [hg, mdel_none hg]
      exact h.sl_nil
    | some x =>
      unfold lineOf
      rw [hg]
      have hq := (perm_out hk hg).map (lrow T)
      refine h.conv ?_
      simp only [all]
      rw [all_perm hq]
      simp only [List.map_cons, all, lrow, Option.getD_some]
      rw [sep_left_comm (sl _ _ _ _ _), sep_left_comm (sl _ _ _ _ _), sep_left_comm (sl _ _ _ _ _), sep_left_comm (sl _ _ _ _ _), sep_assoc]
  refine S.swap (.sep_intro (.pur_intro hp ?_))
  refine key.conv ?_
  simp only [all, sep_assoc]
  rw [sep_left_comm (sl _ _ _ _ _), sep_left_comm (sl _ _ _ _ _), sep_left_comm (sl _ _ _ _ _), sep_left_comm (sl _ _ _ _ _), sep_left_comm (sl _ _ _ _ _)]

theorem S.tabX_parts {k : Int} (h : S w0 w (tabX T b o bh bl bb E k t :: L)) : E.map (fun p => (p.1, p.2.2)) = t.line ∧
    S w0 w (cells b o [.map (some bh), .map (some bl), .map (some bb)] :: mp encI (fun _ => True) bh (ienc t.hold) :: mp encI (fun _ => True) bb (ienc t.wait) :: mp encI (fun _ => True) bl (E.map fun p => (p.1, p.2.1)) :: all ((mdel E k).map (lrow T)) :: L) := by
  obtain ⟨hp, h⟩ := h.sep_elim.pur_elim
  refine ⟨hp, h.conv ?_⟩
  simp only [all, sep_assoc]
theorem S.tabX_see {k : Int} (h : S w0 w (tabX T b o bh bl bb E k t :: L)) : w.cell? ⟨b, o, none⟩ = some (.map (some bh)) ∧ w.cell? ⟨b, o + 1, none⟩ = some (.map (some bl)) ∧ w.cell? ⟨b, o + 2, none⟩ = some (.map (some bb)) ∧
    MapAt encI (fun _ => True) w bh (ienc t.hold) ∧ MapAt encI (fun _ => True) w bb (ienc t.wait) ∧ MapAt encI (fun _ => True) w bl (E.map fun p => (p.1, p.2.1)) := by
  obtain ⟨_, h⟩ := h.tabX_parts
  exact ⟨h.cells_cell 0 rfl, h.cells_cell 1 rfl, h.cells_cell 2 rfl, h.swap.mapAt, h.rot3.mapAt, h.rot4.mapAt⟩
theorem S.tabX_put (K : KeyOk P kt encI (fun _ => True)) (ht : P.underlying mt = some (.map kt e)) {k : Int} {v : Value} {l : List Int} (h : S w0 w (sl T 1 v l.length (icells l) :: tabX T b o bh bl bb E k t :: L)) :
    ∃ w', (Instr.mapUpdate mt (.map (some bl)) (encI k) v).run P w = .ok () w' ∧ S w0 w' (tabM T b o bh bl bb (mput E k (v, l)) { t with line := mput t.line k l } :: L) := by
  obtain ⟨hp, h⟩ := h.swap.tabX_parts
  have hn : (E.map (·.1)).Nodup := by simpa [List.map_map, Function.comp_def] using h.rot4.nodup
  obtain ⟨w', hr, h'⟩ := h.rot4.put K ht k trivial v
  have hm : mput (E.map fun p => (p.1, p.2.1)) k v = (mput E k (v, l)).map fun p => (p.1, p.2.1) := mput_map (fun x : Value × List Int => x.1) E k (v, l)
  have hm2 : (mput E k (v, l)).map (fun p => (p.1, p.2.2)) = mput t.line k l := by rw [← hp]; exact (mput_map (fun x : Value × List Int => x.2) E k (v, l)).symm
  rw [hm] at h'
  refine ⟨w', hr, S.tab_join (t := { t with line := mput t.line k l }) hm2 ?_⟩
  refine h'.conv ?_
  have hq := (perm_put hn k (v, l)).map (lrow T)
  simp only [all]
  rw [all_perm hq]
  simp only [List.map_cons, all, lrow]
  rw [sep_left_comm (mp _ _ bl _) (cells _ _ _), sep_left_comm (mp _ _ bl _) (mp _ _ bh _), sep_left_comm (mp _ _ bl _) (mp _ _ bb _), sep_assoc]
  rw [sep_left_comm (all ((mdel E k).map _))]
theorem S.tabX_back {k : Int} (h : S w0 w (sl T 1 (lineOf E k).1 (lineOf E k).2.length (icells (lineOf E k).2) :: tabX T b o bh bl bb E k t :: L)) : S w0 w (tabM T b o bh bl bb E t :: L) := by
  obtain ⟨hp, h⟩ := h.swap.tabX_parts
  have hn : (E.map (·.1)).Nodup := by simpa [List.map_map, Function.comp_def] using h.rot4.nodup
  refine S.tab_join hp ?_
  cases hg : mget E k with
  | none =>
    rw [mdel_none hg] at h
    have h5 := h.rot5
    refine (h.perm (L := _) (M := sl T 1 (lineOf E k).1 (lineOf E k).2.length (icells (lineOf E k).2) :: _) (List.perm_middle (l₁ := [_, _, _, _, _]))).tail
  | some x =>
    unfold lineOf at h
    rw [hg] at h
    have hq := (perm_out hn hg).map (lrow T)
    refine h.conv ?_
    simp only [all]
    rw [all_perm hq]
    simp only [List.map_cons, all, lrow, Option.getD_some]
    rw [sep_assoc, sep_left_comm (all ((mdel E k).map _))]
end ops
end Go.Sep
