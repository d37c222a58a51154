/- The program's table of locks: one key goes to who comes next: what becomes of memory. -/
import Derived.Test.YtbcoddibdipjkaaDoorLockD
import Derived.Test.YtbcoddibdipjkaaDoorMapsE
import Derived.Test.YtbcoddibdipjkaaDoorSortB
namespace Go.Sep
open Go Go.RowKit
variable {w w0 : World} {L : List HProp} {T b o bh bl bb : Nat} {E : List (Int × (Value × List Int))} {t : Tbl} {P : Program} {kt mt ml e el : TypeId}

/-- The table in the midst of it: the line of 'k' is out, and in the map stands 'v''. -/
def tabY (T b o bh bl bb : Nat) (E : List (Int × (Value × List Int))) (k : Int) (v' : Value) (t : Tbl) (hold wait : List (Int × Int)) : HProp :=
  sep (pur (E.map (fun p => (p.1, p.2.2)) = t.line)) (sep (cells b o [.map (some bh), .map (some bl), .map (some bb)]) (sep (mp encI (fun _ => True) bh (ienc hold))
    (sep (mp encI (fun _ => True) bb (ienc wait)) (sep (mp encI (fun _ => True) bl (mput (E.map fun p => (p.1, p.2.1)) k v')) (all ((mdel E k).map (lrow T)))))))
theorem S.tabY_parts {k : Int} {v' : Value} {hold wait : List (Int × Int)} (h : S w0 w (tabY T b o bh bl bb E k v' t hold wait :: L)) : E.map (fun p => (p.1, p.2.2)) = t.line ∧
    S w0 w (cells b o [.map (some bh), .map (some bl), .map (some bb)] :: mp encI (fun _ => True) bh (ienc hold) :: mp encI (fun _ => True) bb (ienc wait) :: mp encI (fun _ => True) bl (mput (E.map fun p => (p.1, p.2.1)) k v') :: all ((mdel E k).map (lrow T)) :: L) := by
  obtain ⟨hp, h⟩ := h.sep_elim.pur_elim
  refine ⟨hp, h.conv ?_⟩
  simp only [all, sep_assoc]
theorem S.tabY_join {k : Int} {v' : Value} {hold wait : List (Int × Int)} (hp : E.map (fun p => (p.1, p.2.2)) = t.line)
    (h : S w0 w (cells b o [.map (some bh), .map (some bl), .map (some bb)] :: mp encI (fun _ => True) bh (ienc hold) :: mp encI (fun _ => True) bb (ienc wait) :: mp encI (fun _ => True) bl (mput (E.map fun p => (p.1, p.2.1)) k v') :: all ((mdel E k).map (lrow T)) :: L)) :
    S w0 w (tabY T b o bh bl bb E k v' t hold wait :: L) := by
  refine .sep_intro (.pur_intro hp (h.conv ?_))
  simp only [all, sep_assoc]
theorem S.tabY_see {k : Int} {v' : Value} {hold wait : List (Int × Int)} (h : S w0 w (tabY T b o bh bl bb E k v' t hold wait :: L)) : w.cell? ⟨b, o, none⟩ = some (.map (some bh)) ∧ w.cell? ⟨b, o + 1, none⟩ = some (.map (some bl)) ∧ w.cell? ⟨b, o + 2, none⟩ = some (.map (some bb)) := by
  obtain ⟨_, h⟩ := h.tabY_parts
  exact ⟨h.cells_cell 0 rfl, h.cells_cell 1 rfl, h.cells_cell 2 rfl⟩

/-- 't.hold[k], t.line[k] = x, v'': four steps. -/
theorem S.tab_assign2 (K : KeyOk P kt encI (fun _ => True)) (ht : P.underlying mt = some (.map kt e)) (hl : P.underlying ml = some (.map kt el)) {z zl : Value} (hz : ∀ w, (zeroValue e).run P w = .ok z w) (hzl : ∀ w, (zeroValue el).run P w = .ok zl w)
    {k : Int} (h : S w0 w (tabX T b o bh bl bb E k t :: L)) (x : Int) (v' : Value) :
    ∃ (u0 u1 : Value) (s0 s1 : Nat) (w1 w2 w3 w4 : World), (Instr.mapEntry mt (.map (some bh)) (encI k)).run P w = .ok (.tuple #[u0, .int .i64 (s0 : Int)]) w1 ∧ (Instr.entryStore mt (.map (some bh)) (.int .i64 (s0 : Int)) (encI x)).run P w1 = .ok () w2 ∧
      (Instr.mapEntry ml (.map (some bl)) (encI k)).run P w2 = .ok (.tuple #[u1, .int .i64 (s1 : Int)]) w3 ∧ (Instr.entryStore ml (.map (some bl)) (.int .i64 (s1 : Int)) v').run P w3 = .ok () w4 ∧
      (∀ a v, w.cell? a = some v → w1.cell? a = some v ∧ w2.cell? a = some v ∧ w3.cell? a = some v ∧ w4.cell? a = some v) ∧
      S w0 w4 (tabY T b o bh bl bb E k v' t (mput t.hold k x) t.wait :: L) := by
  obtain ⟨hp, h⟩ := h.tabX_parts
  obtain ⟨s0, w1, r1, h1, k1⟩ := h.swap.entry_find K ht (hz w) k trivial
  obtain ⟨w2, r2, h2, k2⟩ := h1.entry_store mt (encI x)
  obtain ⟨s1, w3, r3, h3, k3⟩ := h2.rot4.entry_find K hl (hzl w2) k trivial
  obtain ⟨w4, r4, h4, k4⟩ := h3.entry_store ml v'
  rw [mput_mput] at h4
  refine ⟨_, _, s0, s1, w1, w2, w3, w4, r1, r2, r3, r4, fun a v hc => ⟨k1 a v hc, k2 a v (k1 a v hc), k3 a v (k2 a v (k1 a v hc)), k4 a v (k3 a v (k2 a v (k1 a v hc)))⟩, S.tabY_join hp ?_⟩
  refine h4.conv ?_
  simp only [all]
  rw [mput_mput, ienc_put]
  rw [sep_left_comm (cells _ _ _) (mp _ _ bh _), sep_left_comm (mp _ _ bl _) (mp _ _ bh _), sep_left_comm (mp _ _ bl _) (cells _ _ _), sep_left_comm (mp _ _ bl _) (mp _ _ bb _)]
/-- 'delete(t.by, x)' behind it. -/
theorem S.tabY_wait_del (K : KeyOk P kt encI (fun _ => True)) {ty : TypeId} (ht : P.underlying mt = some (.map kt e)) {k : Int} {v' : Value} {hold wait : List (Int × Int)} (h : S w0 w (tabY T b o bh bl bb E k v' t hold wait :: L)) (x : Int) :
    ∃ w', (Builtin.delete_ #[mt, kt] ty #[.map (some bb), encI x]).run P w = .ok (.tuple #[]) w' ∧ S w0 w' (tabY T b o bh bl bb E k v' t hold (mdel wait x) :: L) := by
  obtain ⟨hp, h⟩ := h.tabY_parts
  obtain ⟨w', hr, h'⟩ := h.rot3.del K (ty := ty) ht x trivial
  rw [ienc_del] at h'
  exact ⟨w', hr, S.tabY_join hp h'.rot3.rot3⟩
/-- All is in its place again. -/
theorem S.tabY_back {k : Int} {v' : Value} {l : List Int} {hold wait : List (Int × Int)} (h : S w0 w (sl T 1 v' l.length (icells l) :: tabY T b o bh bl bb E k v' t hold wait :: L)) :
    S w0 w (tabM T b o bh bl bb (mput E k (v', l)) ⟨hold, mput t.line k l, wait⟩ :: L) := by
  obtain ⟨hp, h⟩ := h.swap.tabY_parts
  have hm : mput (E.map fun p => (p.1, p.2.1)) k v' = (mput E k (v', l)).map fun p => (p.1, p.2.1) := mput_map (fun x : Value × List Int => x.1) E k (v', l)
  have hm2 : (mput E k (v', l)).map (fun p => (p.1, p.2.2)) = mput t.line k l := by rw [← hp]; exact (mput_map (fun x : Value × List Int => x.2) E k (v', l)).symm
  have hn : (E.map (·.1)).Nodup := by
    have h1 := h.rot4.nodup
    rw [hm, List.map_map] at h1
    have h2 : (mput E k (v', l)).map (·.1) = if (mget E k).isSome then E.map (·.1) else E.map (·.1) ++ [k] := keys_put E k (v', l)
    have h3 : ((mput E k (v', l)).map (·.1)).Nodup := by simpa [Function.comp_def] using h1
    rw [h2] at h3
    split at h3
    · exact h3
    · exact (List.nodup_append.1 h3).1
  rw [hm] at h
  refine S.tab_join (t := ⟨hold, mput t.line k l, wait⟩) hm2 ?_
  refine h.conv ?_
  have hq := (perm_put hn k (v', l)).map (lrow T)
  simp only [all]
  rw [all_perm hq]
  simp only [List.map_cons, all, lrow]
  rw [sep_assoc, sep_left_comm (all ((mdel E k).map _))]
end Go.Sep
