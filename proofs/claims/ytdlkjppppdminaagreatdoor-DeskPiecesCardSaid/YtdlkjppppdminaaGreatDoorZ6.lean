/- The program's engine: whether a key was read. -/
import Derived.Test.YtdlkjppppdminaaGreatDoorZ0
import Derived.Sort.OwnSortedInts
import Derived.Test.YtdlkjppppdminaaGreatDoorZ3
import Derived.Test.YtdlkjppppdminaaGreatDoorZ4
import Derived.Shelf.Sort.Plain
import Derived.Shelf.Slices.Turned
import Derived.Ground.Names2Prog
import Derived.Shelf.Slices.SearchI
import Derived.Shelf.Slices.In.SortNone
import Derived.Test.YtdlkjppppdminaaGreatDoorProg
import Derived.Test.YtdlkjppppdminaaGreatDoorZ2
import Derived.WalkKit
import Derived.Test.YtdlkjppppdminaaGreatDoorZ1
import Derived.Deep.RegionHeld3
import Derived.Deep.DeepCutAuto
import Derived.Deep.LoopGhost
import Derived.LoopN
import Derived.BigQuiet
import Derived.Deep.CutBlock
/- An owned slice, sorted by the library. No program in sight. -/
namespace Go.Sep
open Go Go.RowKit Go.Sort Go.Proofs
variable {w w0 : World} {L : List HProp} {e : TypeId} {g o n cap : Nat}
theorem putCells_mid {α : Type} [Inhabited α] (enc : α → Value) (pre post : List Value) (l m : List α) (hl : m.length = l.length) :
  (putCells enc pre.length m.toArray (pre ++ (l.map enc ++ post)).toArray).toList = pre ++ (m.map enc ++ post) := by
 apply List.ext_getElem?
 intro j
 rw [Array.getElem?_toList]
 simp only [putCells, Array.getElem?_mapIdx, List.getElem?_toArray, List.size_toArray]
 by_cases h1 : j < pre.length
 ·rw [List.getElem?_append_left h1, List.getElem?_append_left h1]
  rw [List.getElem?_eq_getElem h1]
  simp; omega
 ·obtain ⟨i, rfl⟩ : ∃ i, j = pre.length + i := ⟨j - pre.length, by omega⟩
  have e1 : ∀ x : List Value, (pre ++ x)[pre.length + i]? = x[i]? := by intro x; rw [List.getElem?_append_right (by omega)]; congr 1; omega
  rw [e1, e1]
  by_cases h2 : i < l.length
  ·have h3 : i < m.length := by omega
   rw [List.getElem?_append_left (l₁ := l.map enc) (by simpa using h2), List.getElem?_append_left (l₁ := m.map enc) (by simpa using h3)]
   simp [h2, h3]
  ·have e2 : ∀ x : List α, x.length = l.length → (x.map enc ++ post)[i]? = post[i - l.length]? := by
    intro x hx; rw [List.getElem?_append_right (by simp; omega)]; simp [hx]
   rw [e2 l rfl, e2 m hl]
   cases post[i - l.length]? with
   | none => rfl
   | some u => simp; intro hx; omega
theorem heap_putRow {α : Type} [Inhabited α] (enc : α → Value) {g off n : Nat} {os : Array Obj} {cur : Array Value} {e : TypeId} {fr : Nat × Nat} (d : Array α) (hb : w.heap[g]? = some (.cells cur e fr)) :
  (grow (putRow enc (Sort.ahead w n) g off d) os).heap[g]? = some (.cells (putCells enc off d cur) e fr) := by
 have hg : g < w.heap.size := (Array.getElem?_eq_some_iff.1 hb).1
 rw [heap_grow_old _ _ (by simpa using hg)]
 simp [putRow, mapBlock, Sort.ahead, Array.getElem?_modify, hb, onCells]
theorem grownBy_putRow {α : Type} [Inhabited α] (enc : α → Value) {g off n : Nat} {os : Array Obj} (d : Array α) : w.grownBy (grow (putRow enc (Sort.ahead w n) g off d) os) (some g) := by
 refine ⟨rfl, rfl, rfl, by simp, fun k hk hne => ?_⟩
 rw [heap_grow_old _ _ (by simpa using hk)]
 have : g ≠ k := fun e => hne (by rw [e])
 simp [putRow, mapBlock, Sort.ahead, Array.getElem?_modify, this]
theorem S.sl_sort {l : List Int} (h : S w0 w (sl e 1 (.slice (some ⟨g, o, none⟩) l.length cap) l.length (icells l) :: L)) : Holds (Value.int .i64) w g o l.toArray ∧ g < w.heap.size ∧
  ∀ (m : List Int) (k : Nat) (os : Array Obj), m.length = l.length → S w0 (grow (putRow (Value.int .i64) (Sort.ahead w k) g o m.toArray) os) (sl e 1 (.slice (some ⟨g, o, none⟩) l.length cap) l.length (icells m) :: L) := by
 rcases h.sl_elim with ⟨hv, _⟩ | ⟨g', cap', pre, sp, post, hp, hb⟩
 ·simp at hv
 have hv := hp.val
 simp at hv
 obtain ⟨⟨rfl, rfl⟩, rfl⟩ := hv
 refine ⟨fun j hj => ?_, hb.blk_lt, fun m k os hm => ?_⟩
 ·have hj' : j < l.length := by simpa using hj
  refine ⟨?_, hb.blk_free _⟩
  refine hb.blk_cell (pre.length + j) ?_
  rw [List.getElem?_append_right (by omega), Nat.add_sub_cancel_left, List.getElem?_append_left (by rw [icells_length]; exact hj')]
  simp [icells, hj']
 ·have hh := hb.blk_heap
  have h1 := heap_putRow (w := w) (Value.int .i64) (off := pre.length) (n := k) (os := os) m.toArray hh
  have e1 : putCells (Value.int .i64) pre.length m.toArray (pre ++ (icells l ++ (sp ++ post))).toArray = (pre ++ (icells m ++ (sp ++ post))).toArray := by
   apply Array.toList_inj.1
   have := putCells_mid (Value.int .i64) pre (sp ++ post) l m hm
   simpa [icells] using this
  rw [e1] at h1
  have h2 := hb.blk_turn (grownBy_putRow (Value.int .i64) (off := pre.length) (n := k) (os := os) m.toArray) h1
  exact .sl_intro ⟨rfl, by rw [icells_length, hm]; simp, by have := hp.room; rw [icells_length] at this ⊢; omega, hp.le, hp.max⟩ h2
end Go.Sep
/- The program's table of locks: one key goes to who comes next: what becomes of memory. -/
namespace Go.Sep
open Go Go.RowKit
variable {w w0 : World} {L : List HProp} {T b o bh bl bb : Nat} {E : List (Int × (Value × List Int))} {t : Tbl} {P : Program} {kt mt ml e el : TypeId}
def tabY (T b o bh bl bb : Nat) (E : List (Int × (Value × List Int))) (k : Int) (v' : Value) (t : Tbl) (hold wait : List (Int × Int)) : HProp :=
 sep (pur (E.map (fun p => (p.1, p.2.2)) = t.line)) (sep (cells b o [.map (some bh), .map (some bl), .map (some bb)]) (sep (mp encI (fun _ => True) bh (ienc hold))
  (sep (mp encI (fun _ => True) bb (ienc wait)) (sep (mp encI (fun _ => True) bl (mput (E.map fun p => (p.1, p.2.1)) k v')) (all ((mdel E k).map (lrow T)))))))
theorem S.tabY_parts {k : Int} {v' : Value} {hold wait : List (Int × Int)} (h : S w0 w (tabY T b o bh bl bb E k v' t hold wait :: L)) : E.map (fun p => (p.1, p.2.2)) = t.line ∧
  S w0 w (cells b o [.map (some bh), .map (some bl), .map (some bb)] :: mp encI (fun _ => True) bh (ienc hold) :: mp encI (fun _ => True) bb (ienc wait) :: mp encI (fun _ => True) bl (mput (E.map fun p => (p.1, p.2.1)) k v') :: all ((mdel E k).map (lrow T)) :: L) := by
 obtain ⟨hp, h⟩ := h.sep_elim.pur_elim
 refine ⟨hp, h.conv ?_⟩
 simp only [all, sep_assoc]
theorem S.tabY_join {k : Int} {v' : Value} {hold wait : List (Int × Int)} (hp : E.map (fun p => (p.1, p.2.2)) = t.line)
  (h : S w0 w (cells b o [.map (some bh), .map (some bl), .map (some bb)] :: mp encI (fun _ => True) bh (ienc hold) :: mp encI (fun _ => True) bb (ienc wait) :: mp encI (fun _ => True) bl (mput (E.map fun p => (p.1, p.2.1)) k v') :: all ((mdel E k).map (lrow T)) :: L)) :
  S w0 w (tabY T b o bh bl bb E k v' t hold wait :: L) := by
 refine .sep_intro (.pur_intro hp (h.conv ?_))
 simp only [all, sep_assoc]
theorem S.tabY_see {k : Int} {v' : Value} {hold wait : List (Int × Int)} (h : S w0 w (tabY T b o bh bl bb E k v' t hold wait :: L)) : w.cell? ⟨b, o, none⟩ = some (.map (some bh)) ∧ w.cell? ⟨b, o + 1, none⟩ = some (.map (some bl)) ∧ w.cell? ⟨b, o + 2, none⟩ = some (.map (some bb)) := by
 obtain ⟨_, h⟩ := h.tabY_parts
 exact ⟨h.cells_cell 0 rfl, h.cells_cell 1 rfl, h.cells_cell 2 rfl⟩
theorem S.tab_assign2 (K : KeyOk P kt encI (fun _ => True)) (ht : P.underlying mt = some (.map kt e)) (hl : P.underlying ml = some (.map kt el)) {z zl : Value} (hz : ∀ w, (zeroValue e).run P w = .ok z w) (hzl : ∀ w, (zeroValue el).run P w = .ok zl w)
  {k : Int} (h : S w0 w (tabX T b o bh bl bb E k t :: L)) (x : Int) (v' : Value) :
  ∃ (u0 u1 : Value) (s0 s1 : Nat) (w1 w2 w3 w4 : World), (Instr.mapEntry mt (.map (some bh)) (encI k)).run P w = .ok (.tuple #[u0, .int .i64 (s0 : Int)]) w1 ∧ (Instr.entryStore mt (.map (some bh)) (.int .i64 (s0 : Int)) (encI x)).run P w1 = .ok () w2 ∧
   (Instr.mapEntry ml (.map (some bl)) (encI k)).run P w2 = .ok (.tuple #[u1, .int .i64 (s1 : Int)]) w3 ∧ (Instr.entryStore ml (.map (some bl)) (.int .i64 (s1 : Int)) v').run P w3 = .ok () w4 ∧
   (∀ a v, w.cell? a = some v → w1.cell? a = some v ∧ w2.cell? a = some v ∧ w3.cell? a = some v ∧ w4.cell? a = some v) ∧
   S w0 w4 (tabY T b o bh bl bb E k v' t (mput t.hold k x) t.wait :: L) := by
 obtain ⟨hp, h⟩ := h.tabX_parts
 obtain ⟨s0, w1, r1, h1, k1⟩ := h.swap.entry_find K ht (hz w) k trivial
 obtain ⟨w2, r2, h2, k2⟩ := h1.entry_store mt (encI x)
 obtain ⟨s1, w3, r3, h3, k3⟩ := h2.rot4.entry_find K hl (hzl w2) k trivial
 obtain ⟨w4, r4, h4, k4⟩ := h3.entry_store ml v'
 rw [mput_mput] at h4
 refine ⟨_, _, s0, s1, w1, w2, w3, w4, r1, r2, r3, r4, fun a v hc => ⟨k1 a v hc, k2 a v (k1 a v hc), k3 a v (k2 a v (k1 a v hc)), k4 a v (k3 a v (k2 a v (k1 a v hc)))⟩, S.tabY_join hp ?_⟩
 refine h4.conv ?_
 simp only [all]
 rw [mput_mput, ienc_put]
 rw [sep_left_comm (cells _ _ _) (mp _ _ bh _), sep_left_comm (mp _ _ bl _) (mp _ _ bh _), sep_left_comm (mp _ _ bl _) (cells _ _ _), sep_left_comm (mp _ _ bl _) (mp _ _ bb _)]
theorem S.tabY_wait_del (K : KeyOk P kt encI (fun _ => True)) {ty : TypeId} (ht : P.underlying mt = some (.map kt e)) {k : Int} {v' : Value} {hold wait : List (Int × Int)} (h : S w0 w (tabY T b o bh bl bb E k v' t hold wait :: L)) (x : Int) :
  ∃ w', (Builtin.delete_ #[mt, kt] ty #[.map (some bb), encI x]).run P w = .ok (.tuple #[]) w' ∧ S w0 w' (tabY T b o bh bl bb E k v' t hold (mdel wait x) :: L) := by
 obtain ⟨hp, h⟩ := h.tabY_parts
 obtain ⟨w', hr, h'⟩ := h.rot3.del K (ty := ty) ht x trivial
 rw [ienc_del] at h'
 exact ⟨w', hr, S.tabY_join hp h'.rot3.rot3⟩
theorem S.tabY_back {k : Int} {v' : Value} {l : List Int} {hold wait : List (Int × Int)} (h : S w0 w (sl T 1 v' l.length (icells l) :: tabY T b o bh bl bb E k v' t hold wait :: L)) :
  S w0 w (tabM T b o bh bl bb (mput E k (v', l)) ⟨hold, mput t.line k l, wait⟩ :: L) := by
 obtain ⟨hp, h⟩ := h.swap.tabY_parts
 have hm : mput (E.map fun p => (p.1, p.2.1)) k v' = (mput E k (v', l)).map fun p => (p.1, p.2.1) := mput_map (fun x : Value × List Int => x.1) E k (v', l)
 have hm2 : (mput E k (v', l)).map (fun p => (p.1, p.2.2)) = mput t.line k l := by rw [← hp]; exact (mput_map (fun x : Value × List Int => x.2) E k (v', l)).symm
 have hn : (E.map (·.1)).Nodup := by
  have h1 := h.rot4.nodup
  rw [hm, List.map_map] at h1
  have h2 : (mput E k (v', l)).map (·.1) = if (mget E k).isSome then E.map (·.1) else E.map (·.1) ++ [k] := keys_put E k (v', l)
  have h3 : ((mput E k (v', l)).map (·.1)).Nodup := by simpa [Function.comp_def] using h1
  rw [h2] at h3
  split at h3
  ·exact h3
  ·exact (List.nodup_append.1 h3).1
 rw [hm] at h
 refine S.tab_join (t := ⟨hold, mput t.line k l, wait⟩) hm2 ?_
 refine h.conv ?_
 have hq := (perm_put hn k (v', l)).map (lrow T)
 simp only [all]
 rw [all_perm hq]
 simp only [List.map_cons, all, lrow]
 rw [sep_assoc, sep_left_comm (all ((mdel E k).map _))]
end Go.Sep
/- The library's contracts at this translation: laid by the kit's tool. -/
namespace Go.Proofs
open Go.Shelf
def Tryz.lays189_ren : Go.Shelf.Ren := ⟨fun | 189 => 165 | 125 => 170 | 257 => 175 | 128 => 185 | 129 => 133 | 294 => 187 | 295 => 188 | 296 => 189 | 297 => 190 | 298 => 191 | 299 => 192 | 216 => 193 | 300 => 194 | 301 => 195 | 328 => 201 | 329 => 197 | 330 => 198 | 331 => 202 | 332 => 203 | 215 => 204 | 343 => 206 | n => n, fun | 28 => 47 | 3 => 3 | 46 => 157 | 0 => 0 | 51 => 206 | 53 => 140 | 4 => 4 | 183 => 250 | 182 => 249 | 131 => 179 | 5 => 5 | 9 => 9 | 218 => 262 | 222 => 266 | 228 => 270 | 229 => 271 | n => n, fun | n => n⟩
theorem Tryz.lays189 : Go.Proofs.Lays.n189 Tryz.prog Tryz.lays189_ren := {
 mixed := by kernel_rfl
 f125 := Tryz.func170.trans (congrArg some (by kernel_rfl))
 f128 := Tryz.func185.trans (congrArg some (by kernel_rfl))
 f129 := Tryz.func133.trans (congrArg some (by kernel_rfl))
 f189 := Tryz.func165.trans (congrArg some (by kernel_rfl))
 f215 := Tryz.func204.trans (congrArg some (by kernel_rfl))
 f216 := Tryz.func193.trans (congrArg some (by kernel_rfl))
 f257 := Tryz.func175.trans (congrArg some (by kernel_rfl))
 f294 := Tryz.func187.trans (congrArg some (by kernel_rfl))
 f295 := Tryz.func188.trans (congrArg some (by kernel_rfl))
 f296 := Tryz.func189.trans (congrArg some (by kernel_rfl))
 f297 := Tryz.func190.trans (congrArg some (by kernel_rfl))
 f298 := Tryz.func191.trans (congrArg some (by kernel_rfl))
 f299 := Tryz.func192.trans (congrArg some (by kernel_rfl))
 f300 := Tryz.func194.trans (congrArg some (by kernel_rfl))
 f301 := Tryz.func195.trans (congrArg some (by kernel_rfl))
 f328 := Tryz.func201.trans (congrArg some (by kernel_rfl))
 f329 := Tryz.func197.trans (congrArg some (by kernel_rfl))
 f330 := Tryz.func198.trans (congrArg some (by kernel_rfl))
 f331 := Tryz.func202.trans (congrArg some (by kernel_rfl))
 f332 := Tryz.func203.trans (congrArg some (by kernel_rfl))
 f343 := Tryz.func206.trans (congrArg some (by kernel_rfl))
 t0 := Tryz.underlying0
 a0 := Tryz.isAgg0
 z0 := Tryz.sizeOf0
 v0 := Tryz.zeroValue0
 t3 := Tryz.underlying3
 a3 := Tryz.isAgg3
 z3 := Tryz.sizeOf3
 v3 := Tryz.zeroValue3
 t4 := Tryz.underlying4
 a4 := Tryz.isAgg4
 z4 := Tryz.sizeOf4
 v4 := Tryz.zeroValue4
 t5 := Tryz.underlying5
 a5 := Tryz.isAgg5
 z5 := Tryz.sizeOf5
 v5 := Tryz.zeroValue5
 t9 := Tryz.underlying9
 a9 := Tryz.isAgg9
 z9 := Tryz.sizeOf9
 v9 := Tryz.zeroValue9
 t28 := Tryz.underlying47
 a28 := Tryz.isAgg47
 z28 := Tryz.sizeOf47
 v28 := Tryz.zeroValue47
 t46 := Tryz.underlying157
 a46 := Tryz.isAgg157
 z46 := Tryz.sizeOf157
 v46 := Tryz.zeroValue157
 t51 := Tryz.underlying206
 a51 := Tryz.isAgg206
 z51 := Tryz.sizeOf206
 v51 := Tryz.zeroValue206
 t53 := Tryz.underlying140
 a53 := Tryz.isAgg140
 z53 := Tryz.sizeOf140
 v53 := Tryz.zeroValue140
 t131 := Tryz.underlying179
 a131 := Tryz.isAgg179
 z131 := Tryz.sizeOf179
 v131 := Tryz.zeroValue179
 t182 := Tryz.underlying249
 a182 := Tryz.isAgg249
 z182 := Tryz.sizeOf249
 v182 := Tryz.zeroValue249
 t183 := Tryz.underlying250
 a183 := Tryz.isAgg250
 z183 := Tryz.sizeOf250
 v183 := Tryz.zeroValue250
 t218 := Tryz.underlying262
 a218 := Tryz.isAgg262
 z218 := Tryz.sizeOf262
 v218 := Tryz.zeroValue262
 t222 := Tryz.underlying266
 a222 := Tryz.isAgg266
 z222 := Tryz.sizeOf266
 v222 := Tryz.zeroValue266
 t228 := Tryz.underlying270
 a228 := Tryz.isAgg270
 z228 := Tryz.sizeOf270
 v228 := Tryz.zeroValue270
 t229 := Tryz.underlying271
 a229 := Tryz.isAgg271
 z229 := Tryz.sizeOf271
 v229 := Tryz.zeroValue271 }
open Go.Sort Go.RowKit in
theorem Tryz.slices_Sort_int (blk off cap : Nat) (zs : List Int) (w : World) (hH : Holds (Value.int .i64) w blk off zs.toArray) (hblk : blk < w.heap.size) (hsz : zs.length < 4611686018427387904) :
  Calls Tryz.prog 165 #[.slice (some ⟨blk, off, none⟩) zs.length cap] w fun e w' =>
   e = .returned (.tuple #[]) ∧ ∃ n os, w' = grow (putRow (Value.int .i64) (Sort.ahead w n) blk off (zs.mergeSort fun x y => decide (x ≤ y)).toArray) os := Any.slices_Sort_int Tryz.lays189 blk off cap zs w hH hblk hsz
def Tryz.lays108_ren : Go.Shelf.Ren := ⟨fun | 108 => 145 | n => n, fun | 28 => 47 | 3 => 3 | 0 => 0 | 4 => 4 | n => n, fun | n => n⟩
theorem Tryz.lays108 : Go.Proofs.Lays.n108 Tryz.prog Tryz.lays108_ren := {
 mixed := by kernel_rfl
 f108 := Tryz.func145.trans (congrArg some (by kernel_rfl))
 t0 := Tryz.underlying0
 a0 := Tryz.isAgg0
 z0 := Tryz.sizeOf0
 v0 := Tryz.zeroValue0
 t3 := Tryz.underlying3
 a3 := Tryz.isAgg3
 z3 := Tryz.sizeOf3
 v3 := Tryz.zeroValue3
 t4 := Tryz.underlying4
 a4 := Tryz.isAgg4
 z4 := Tryz.sizeOf4
 v4 := Tryz.zeroValue4
 t28 := Tryz.underlying47
 a28 := Tryz.isAgg47
 z28 := Tryz.sizeOf47
 v28 := Tryz.zeroValue47 }
open Go.Lib in
theorem Tryz.slices_Index_int (b off n c : Nat) (zs : List Int) (x : Int) (w : World) (hz : n ≤ zs.length) (hbig : n ≤ 9223372036854775807) (hc : ∀ j, j < zs.length → w.cell? ⟨b, off + j, none⟩ = some (.int .i64 (zs.getD j 0))) :
  Calls Tryz.prog 145 #[.slice (some ⟨b, off, none⟩) n c, .int .i64 x] w fun e w' => e = .returned (.int .i64 (Lib.idxOf (zs.take n) x)) ∧ w' = w := Any.slices_Index_int Tryz.lays108 b off n c zs x w hz hbig hc
open Go.Lib in
theorem Tryz.slices_Index_int_empty (a : Option Addr) (c : Nat) (x : Int) (w : World) :
  Calls Tryz.prog 145 #[.slice a 0 c, .int .i64 x] w fun e w' => e = .returned (.int .i64 (Lib.idxOf [] x)) ∧ w' = w := Any.slices_Index_int_empty Tryz.lays108 a c x w
open Go.RowKit Go.Sort in
theorem Tryz.slices_Sort_int_none (p : Option Addr) (cap : Nat) (w : World) :
  Calls Tryz.prog 165 #[.slice p 0 cap] w fun e w' => e = .returned (.tuple #[]) ∧ w' = w := Any.slices_Sort_int_none Tryz.lays189 p cap w
end Go.Proofs
/- Assertions in whatever order; the library's sort at an owned slice of integers. -/
namespace Go.Proofs.YtdlkjppppdminaaGreatDoor
open Go Go.RowKit Go.Sep
theorem sort_ints (w0 w : World) (v : Value) (l : List Int) (L : List HProp) (hs : S w0 w (sl 3 1 v l.length (icells l) :: L)) (hb : l.length ≤ 4000000) :
  Calls Tryz.prog 165 #[v] w fun e w' => e = .returned (.tuple #[]) ∧ S w0 w' (sl 3 1 v l.length (icells (sortI l)) :: L) := by
 rcases Nat.eq_zero_or_pos l.length with h0 | hp
 ·obtain rfl := List.eq_nil_of_length_eq_zero h0
  obtain ⟨a, cap, rfl, _⟩ := hs.sl_val
  exact (Tryz.slices_Sort_int_none a cap w).mono fun e w' ⟨h1, h2⟩ => ⟨h1, by rw [h2]; simpa [sortI] using hs⟩
 ·obtain ⟨g, o, cap, rfl, _⟩ := hs.sl_some (by rw [icells_length]; exact hp)
  obtain ⟨h1, h2, h3⟩ := hs.sl_sort
  refine (Tryz.slices_Sort_int g o cap l w h1 h2 (by omega)).mono fun e w' ⟨he, n, os, hw⟩ => ⟨he, ?_⟩
  rw [hw]
  exact h3 (sortI l) n os (sortI_len l)
end Go.Proofs.YtdlkjppppdminaaGreatDoor
/- The program's table of locks: who lets go. -/
namespace Go.Proofs.YtdlkjppppdminaaGreatDoor
open Go Go.RowKit Go.Sep
theorem strikeT_none {t : Tbl} {tx : Int} (h : mget t.wait tx = none) : strikeT t tx = t := by unfold strikeT; rw [h]
theorem strikeT_some {t : Tbl} {tx k : Int} (h : mget t.wait tx = some k) : strikeT t tx = { t with wait := mdel t.wait tx, line := mput t.line k (strike (lineAt t k) tx) } := by unfold strikeT; rw [h]
def hk (tx : Int) (dn : List (Int × Int)) : List Int := (dn.filter fun p => decide (p.2 = tx)).map (·.1)
theorem hk_snoc (tx : Int) (dn : List (Int × Int)) (p : Int × Int) : hk tx (dn ++ [p]) = if p.2 = tx then hk tx dn ++ [p.1] else hk tx dn := by
 unfold hk; rw [List.filter_append, List.map_append]; by_cases h : p.2 = tx <;> simp [h]
theorem nodup_le {α : Type} : ∀ {l m : List α}, l.Nodup → (∀ x ∈ l, x ∈ m) → l.length ≤ m.length
 | [], _, _, _ => Nat.zero_le _
 | a :: l, m, hn, hs => by
  obtain ⟨m1, m2, rfl⟩ := List.append_of_mem (hs a (by simp))
  rw [List.nodup_cons] at hn
  have := nodup_le (l := l) (m := m1 ++ m2) hn.2 (fun x hx => by
   have h1 := hs x (by simp [hx])
   have hne : x ≠ a := fun e => hn.1 (by rw [← e]; exact hx)
   simp only [List.mem_append, List.mem_cons] at h1 ⊢
   rcases h1 with h | h | h
   ·exact .inl h
   ·exact absurd h hne
   ·exact .inr h)
  simp only [List.length_append, List.length_cons] at this ⊢; omega
set_option maxRecDepth 40000 in
set_option maxHeartbeats 8000000 in
theorem tdrop_made (w0 w : World) (b o bh bl bb : Nat) (E : List (Int × (Value × List Int))) (t : Tbl) (tx : Int) (L : List HProp) (hs : S w0 w (tabM 3 b o bh bl bb E t :: L))
  (hb : ∀ k, (lineAt t k).length ≤ 1000000) (hh : t.hold.length ≤ 1000000) :
  Calls Tryz.prog 162 #[.pointer (some ⟨b, o, none⟩), .int .i64 tx] w fun e w' => ∃ v', e = .returned v' ∧
   S w0 w' (sl 91 2 v' (tbDrop t tx).2.length (pcells (tbDrop t tx).2) :: tabP 3 b o (tbDrop t tx).1 :: L) := by
 have hs1 := hs.alloc #[.int .i64 tx] 3
 obtain ⟨c0, c1, c2, m0, m2, m1⟩ := hs1.tail.tab_see
 have ct := hs1.blk_cell 0 rfl
 obtain ⟨_, _, _, _, m2d, _⟩ := hs1.drew.tail.tab_see
 have l2 := Tryz.look2 m2d tx
 clear m2d
 have hw : mget t.wait tx = if (mget t.wait tx).isSome then some ((mget t.wait tx).getD 0) else none := by cases mget t.wait tx <;> rfl
 generalize (mget t.wait tx).isSome = okb at l2 hw
 generalize (mget t.wait tx).getD 0 = k0 at l2 hw
 have H1 := hid hs1; have HB := hid hb; have HH := hid hh; have HW := hid hw
 clear hs hs1 hb hh hw m0 m1 m2
 go_enter Tryz.func162, Tryz.ntmps162
 go_wp2_with fail
 go_region
 go_upto_if 23 with fail
 go_cut [] (fun wx => ∃ E', S w0 wx (blk w.heap.size 3 [.int .i64 tx] :: tabM 3 b o bh bl bb E' (strikeT t tx) :: L))
 case first =>
  cases okb with
  | false =>
   have hw := HW.out
   rw [if_neg (by simp)] at hw
   go_wp2_with fail
   go_meet
   exact ⟨E, by rw [strikeT_none hw]; exact H1.out.drew⟩
  | true =>
   have hw := HW.out
   rw [if_pos rfl] at hw
   obtain ⟨w2, u2, hs2⟩ := H1.out.drew.drew.swap.tab_wait_del Tryz.keyInt (ty := 0) Tryz.underlying101 tx
   simp only [Sep.encI] at u2
   obtain ⟨hp, _⟩ := hs2.tab_parts
   have hx3 := line_of hp k0
   have hk := hs2.drew.tab_line k0
   have hbl := HB.out k0
   have hsee := hk.swap.tabX_see
   have lL := Tryz.lookL hsee.2.2.2.2.2 k0
   have d1 := hsee.2.1
   have ct2 := hk.rot3.blk_cell 0 rfl
   obtain ⟨al, cl, hvl, _, _, _⟩ := hk.sl_val
   have hk2 := hk.rot3.swap
   have hxl : (lineOf E k0).2 = lineAt t k0 := hx3
   rw [hvl] at lL hk2
   rw [hxl] at lL hk2
   have hst := strikeT_some hw
   have H2 := hid hk2; have HS := hid hst
   clear hs2 hk hk2 hsee hx3 hvl hxl hp hst hw HW
   go_wp2_with fail
   go_region
   go_wp2_with fail
   go_region_with (go_at_call 172; refine (delete1_any w0 _ al cl (lineAt t k0) tx w.heap.size _ H2.out hbl).mono ?_; rintro e w3 ⟨v3, rfl, hs3⟩; obtain ⟨_, e1, _⟩ := hs3.rot3.tabX_see; obtain ⟨w4, u4, hs4⟩ := S.tabX_put Tryz.keyInt Tryz.underlying102 (k := k0) (v := v3) (l := strike (lineAt t k0) tx) (hs3.rot3.swap); simp only [Sep.encI] at u4; have H4 := hid hs4; clear hs3 hs4)
   all_goals
    go_wp2_with fail
    go_meet
    exact ⟨_, by rw [HS.out]; exact H4.out.swap⟩
 case rest =>
  obtain ⟨E1, hsx⟩ := hcut
  have hth : (strikeT t tx).hold = t.hold := strikeT_hold t tx
  have hhd : holders (strikeT t tx) tx = holders t tx := by unfold holders; rw [hth]
  have hlb : ∀ k, (lineAt (strikeT t tx) k).length ≤ 1000000 := by
   intro k
   unfold strikeT
   cases mget t.wait tx with
   | none => exact HB.out k
   | some k1 =>
    unfold lineAt
    show ((mget (mput t.line k1 _) k).getD []).length ≤ _
    rw [mget_put]
    split
    ·exact Nat.le_trans (strike_le _ _) (HB.out k1)
    ·exact HB.out k
  have hd : tbDrop t tx = (sortI (holders t tx)).foldl dropStep (strikeT t tx, []) := by unfold tbDrop; rw [hhd]
  clear c0 c1 c2 ct l2 H1 HW HB
  have HLB := hid hlb
  clear hlb
  have hh2 : (strikeT t tx).hold.length ≤ 1000000 := by rw [hth]; exact HH.out
  clear hth HH hhd
  have hhd2 : holders (strikeT t tx) tx = holders t tx := by unfold holders; rw [strikeT_hold]
  generalize holders t tx = ks at hd hhd2
  have HHD := hid hhd2; have HH2 := hid hh2; have HD := hid hd
  clear hh2 hhd2 hd
  generalize strikeT t tx = t1 at hsx HHD HLB HH2 HD
  obtain ⟨hp, hq⟩ := hsx.swap.tab_parts
  obtain ⟨c0, _, _, _, _, _⟩ := hsx.swap.tab_see
  have ct := hsx.blk_cell 0 rfl
  obtain ⟨w3, ur, hs3⟩ := hq.swap.range (P := Tryz.prog) Tryz.underlying101
  have H3 := hid hs3; have HP := hid hp
  clear hsx hp hq hs3
  go_wp2_with fail
  go_loopg [7] (t1.hold.length) (fun n kv wr => ∃ dn : List (Int × Int), t1.hold.length ≤ dn.length + n ∧ S w0 wr (sl 3 1 kv (hk tx dn).length (icells (hk tx dn)) :: ranging Sep.encI (fun _ => True) bh wc.heap.size (ienc t1.hold) (ienc dn) :: cells b o [.map (some bh), .map (some bl), .map (some bb)] :: mp Sep.encI (fun _ => True) bb (ienc t1.wait) :: mp Sep.encI (fun _ => True) bl (E1.map fun p => (p.1, p.2.1)) :: all (E1.map (lrow 3)) :: blk w.heap.size 3 [.int .i64 tx] :: L))
  case atStart => exact ⟨[], by simp, H3.out.sl_nil⟩
  case round =>
   obtain ⟨dn, hn, hsr⟩ := hrel
   rcases hsr.swap.next Tryz.keyInt (ty := 0) with ⟨d, w4, hd1, hd2, hr, hs4⟩ | ⟨hall, hr⟩
   ·obtain ⟨p, hp, rfl⟩ := ienc_mem hd1
    have hent := hs4.entry (P := Tryz.prog)
    rw [ienc_snoc] at hs4
    simp only [Sep.encI] at hr hent
    have hlen : (dn ++ [p]).length ≤ t1.hold.length := by
     have h1 := hs4.ranging_sub
     have h2 := nodup_le h1.1 h1.2.1
     simpa [ienc] using h2
    have ct4 := (hs4.of_mem (A := blk w.heap.size 3 [.int .i64 tx]) (by simp)).blk_cell 0 rfl
    rw [List.length_append, List.length_singleton] at hlen
    have hh2 := HH2.out
    have hkl : (hk tx dn).length ≤ dn.length := by unfold hk; rw [List.length_map]; exact List.length_filter_le _ _
    by_cases hpx : p.2 = tx
    ·have hbe : (p.2 == tx) = true := by simp [hpx]
     obtain ⟨al, cl, rfl, _, _, _⟩ := hs4.swap.sl_val
     have hs5 := (hs4.swap.alloc #[.int .i64 p.1] 3)
     have hn5 := news_blk hs5
     have hkk : hk tx (dn ++ [p]) = hk tx dn ++ [p.1] := by rw [hk_snoc, if_pos hpx]
     have H5 := hid hs5.tail; have HN := hid hn5; have HK := hid hkk
     obtain ⟨i0, hi0, hz0, hz1, hz2⟩ := info_parts Tryz.info3
     have hil := icells_length (hk tx dn)
     have HL := hid hil
     clear hsr hs4 hs5 hn5 hkk hp hd1 hd2 hil hpx
     go_wp2_with (at_builtin; refine wpList_append rfl (.tmp 55) (.tmp 57) 47 rfl 3 i0 _ 1 8 Tryz.underlying47 hi0 hz0 hz1 hz2 rfl (by decide) H5.out rfl (some ⟨w4.heap.size, 0, none⟩) 1 1 [.int .i64 p.1] rfl rfl HN.out (by simp [Value.oneCell']) (by unfold maxLen; omega) (by omega) ?_; intro v1 w5 hs6; have H6 := hid hs6; clear hs6)
     go_roundg (gk - 1)
     case measure => omega
     case rel => exact ⟨dn ++ [p], by rw [List.length_append, List.length_singleton]; omega, by rw [HK.out, List.length_append, icells_append]; exact H6.out⟩
    ·have hbe : (p.2 == tx) = false := by simp [hpx]
     have hkk : hk tx (dn ++ [p]) = hk tx dn := by rw [hk_snoc, if_neg hpx]
     have H5 := hid hs4.swap; have HK := hid hkk
     clear hsr hs4 hkk hp hd1 hd2 hpx
     go_wp2_with fail
     go_roundg (gk - 1)
     case measure => omega
     case rel => exact ⟨dn ++ [p], by rw [List.length_append, List.length_singleton]; omega, by rw [HK.out]; exact H5.out⟩
   ·obtain ⟨hpd, hs4⟩ := hsr.swap.range_over hall
    have hpk : (hk tx dn).Perm ks := by rw [← HHD.out]; exact ((ienc_perm hpd).filter _).map _
    have hkl : (hk tx dn).length ≤ t1.hold.length := by
     have h1 := (ienc_perm hpd).length_eq
     have h2 : (hk tx dn).length ≤ dn.length := by unfold hk; rw [List.length_map]; exact List.length_filter_le _ _
     omega
    have hh2 := HH2.out
    generalize hk tx dn = kl at hpk hkl hs4
    have hse : sortI kl = sortI ks := sortI_of ((sortI_perm kl).trans hpk) (sortI_sorted kl)
    have hs5 := hs4.conv (M := cells b o [.map (some bh), .map (some bl), .map (some bb)] :: mp Sep.encI (fun _ => True) bh (ienc t1.hold) :: mp Sep.encI (fun _ => True) bb (ienc t1.wait) :: mp Sep.encI (fun _ => True) bl (E1.map fun p => (p.1, p.2.1)) :: all (E1.map (lrow 3)) :: sl 3 1 u7 kl.length (icells kl) :: blk w.heap.size 3 [.int .i64 tx] :: L) (by simp only [all]; ac_rfl)
    have hT := (S.tab_join (t := t1) HP.out hs5).swap
    have hkb : kl.length ≤ 4000000 := by omega
    have hkq : kl.length = (sortI ks).length := by rw [← hse, sortI_len]
    obtain ⟨ak, ck, rfl, hcap, hcap2, _⟩ := hT.sl_val
    unfold maxLen at hcap2
    have HT := hid hT; have HSE := hid hse; have HKQ := hid hkq
    clear hsr hs4 hs5 hT hse hpk hpd hall hkq
    go_wp2_with fail
    with_reducible refine (sort_ints w0 wr _ kl _ HT.out hkb).mono ?_
    rintro e w5 ⟨rfl, hs6⟩
    rw [HSE.out] at hs6
    have hkq := HKQ.out
    rw [hkq] at hs6 hkl hcap ⊢
    generalize sortI ks = ss at hs6 hkl HD hcap
    clear hkq HKQ HSE HT hkb
    have H6 := hid hs6
    clear hs6
    go_wp2_with fail
    have hss : ss.length ≤ 1000000 := by omega
    clear hkl hh2 hr
    have hs7 : S w0 w5 (sl 91 2 (.slice none 0 0) ([] : List (Int × Int)).length (pcells []) :: tabM 3 b o bh bl bb E1 t1 :: sl 3 1 (.slice ak ss.length ck) ss.length (icells ss) :: L) :=
     (H6.out.conv (M := blk w.heap.size 3 [.int .i64 tx] :: tabM 3 b o bh bl bb E1 t1 :: sl 3 1 (.slice ak ss.length ck) ss.length (icells ss) :: L) (by simp only [all]; ac_rfl)).tail.sl_nil
    have H7 := hid hs7
    clear hs7 H6
    go_loopw [10, 63] (fun ov iv wr => ∃ (i : Nat) (E2 : List (Int × (Value × List Int))), i ≤ ss.length ∧ iv = .int .i64 i ∧ ((ss.take i).foldl dropStep (t1, [])).2.length ≤ i ∧ S w0 wr (sl 91 2 ov ((ss.take i).foldl dropStep (t1, [])).2.length (pcells ((ss.take i).foldl dropStep (t1, [])).2) :: tabM 3 b o bh bl bb E2 ((ss.take i).foldl dropStep (t1, [])).1 :: sl 3 1 (.slice ak ss.length ck) ss.length (icells ss) :: L)) (fun _ iv _ => ss.length - (intOf iv).toNat)
    case atStart => exact ⟨0, E1, Nat.zero_le _, rfl, Nat.le_refl _, H7.out⟩
    case round =>
     obtain ⟨i, E2, hi, rfl, hol, hsr⟩ := hrel
     by_cases hlt : i < ss.length
     ·have hp : ss[i]? = some ss[i] := by simp [hlt]
      generalize ss[i] = k at hp
      have hst : (ss.take (i + 1)).foldl dropStep (t1, []) = dropStep ((ss.take i).foldl dropStep (t1, [])) k := by rw [take_succ_get hp, List.foldl_append]; rfl
      have HST := hid hst
      clear hst
      generalize (ss.take i).foldl dropStep (t1, []) = st at hol hsr HST
      obtain ⟨T2, out⟩ := st
      simp only at hol hsr
      obtain ⟨gk, ok, rfl, _, ck0⟩ := hsr.rot3.sl_int hp
      obtain ⟨hp2, _⟩ := hsr.swap.tab_parts
      have hln := line_of hp2 k
      have hsee := hsr.swap.tab_see
      have lL := Tryz.lookL hsee.2.2.2.2.2 k
      have c1 := hsee.2.1
      have hkl := hsr.swap.tab_line k
      obtain ⟨al, cl, hvl, hcl, hcl2, _⟩ := hkl.sl_val
      unfold maxLen at hcl2
      have hlk : (lineOf E2 k).2 = lineAt T2 k := hln
      rw [hvl] at lL hkl
      rw [hlk] at lL hkl hcl
      clear hp hsee hln hvl hlk hp2
      cases hq : lineAt T2 k with
      | nil =>
       rw [hq] at lL hcl
       simp only [List.length_nil] at lL
       obtain ⟨w6, u6, hs6⟩ := hsr.swap.tab_hold_del Tryz.keyInt (ty := 0) Tryz.underlying101 k
       simp only [Sep.encI] at u6
       have c0 := hsr.swap.tab_see.1
       have hds : dropStep (T2, out) k = ({ T2 with hold := mdel T2.hold k }, out) := by unfold dropStep; rw [hq]
       have H8 := hid hs6.swap; have HDS := hid hds
       clear hsr hkl hs6 hq hds
       go_wp2_with fail
       go_roundw
       case rel => exact ⟨i + 1, E2, by omega, by go_num, by rw [HST.out, HDS.out]; exact Nat.le_succ_of_le hol, by rw [HST.out, HDS.out]; exact H8.out⟩
       case measure => simp [intOf]; omega
      | cons x l =>
       rw [hq] at lL hcl hkl
       simp only [List.length_cons] at lL hcl hkl
       have hds : dropStep (T2, out) k = ({ hold := mput T2.hold k x, line := mput T2.line k l, wait := mdel T2.wait x }, out ++ [(k, x)]) := by unfold dropStep; rw [hq]
       obtain ⟨gx, ox, rfl, _, dx⟩ := hkl.sl_int (l := x :: l) (i := 0) (x := x) rfl
       rw [Nat.add_zero] at dx
       obtain ⟨av, hav⟩ : ∃ av : Option Addr, av = (if cl = 1 then some ⟨gx, ox, none⟩ else some ⟨gx, ox + 1, none⟩) := ⟨_, rfl⟩
       obtain ⟨u0, u1, s0, s1, x1, x2, x3, x4, r1, r2, r3, r4, keep, hx4⟩ := hkl.drew.swap.tab_assign2 Tryz.keyInt Tryz.underlying101 Tryz.underlying102 Tryz.zero_int Tryz.zero_ints x (.slice av l.length (cl - 1))
       simp only [Sep.encI] at r1 r2 r3
       have hs0 := hkl.drew.swap.tabX_see
       obtain ⟨a1, a2, a3, a4⟩ := keep _ _ hs0.1
       obtain ⟨b1, b2, b3, b4⟩ := keep _ _ hs0.2.1
       obtain ⟨d1, d2, d3, d4⟩ := keep _ _ (show (wr.drew).cell? ⟨gx, ox, none⟩ = _ from dx)
       have c0 := hsr.swap.tab_see.1
       have H8 := hid hx4; have HDS := hid hds
       clear hsr hkl keep hs0 hx4 hq hds
       obtain ⟨x5, r5, hx5⟩ := H8.out.drew.tabY_wait_del Tryz.keyInt (ty := 0) Tryz.underlying101 x
       simp only [Sep.encI] at r5
       have c2 := H8.out.drew.tabY_see.2.2
       have d5 := (hx5.swap.sl_int (l := x :: l) (i := 0) (x := x) rfl)
       obtain ⟨_, _, hge, _, d5⟩ := d5
       simp only [Option.some.injEq, Addr.mk.injEq] at hge
       obtain ⟨rfl, rfl, -⟩ := hge
       rw [Nat.add_zero] at d5
       have hx9 := S.sl_tail1 hx5.swap
       rw [← hav] at hx9
       have hx6 := S.tabY_back (l := l) hx9
       obtain ⟨ao, co, rfl, _, _, _⟩ := hx6.swap.sl_val
       have hx7 := hx6.swap.alloc #[.int .i64 k, .int .i64 x] 91
       have hn7 := news_blk hx7
       have hx8 := hx7.tail
       have H9 := hid hx8; have HN := hid hn7
       obtain ⟨i0, hi0, hz0, hz1, hz2⟩ := info_parts Tryz.info91
       clear hx5 hx6 hx7 hx8 hx9 hn7 H8
       by_cases hc1 : cl = 1
       case' pos =>
        subst hc1
        obtain rfl : l = [] := List.eq_nil_of_length_eq_zero (by omega)
        rw [if_pos rfl] at hav
        subst hav
        simp only [List.length_nil, Nat.zero_add, Nat.sub_self] at lL r4
       case' neg => rw [if_neg hc1] at hav; subst hav
       all_goals
        go_wp2_with fail
        go_region
        go_wp2_with fail
        go_region
        go_wp2_with (at_builtin; refine wpList_append rfl (.tmp 107) (.tmp 113) 70 rfl 91 i0 (.agg #[.int .i64 0, .int .i64 0]) 2 16 Tryz.underlying70 hi0 hz0 hz1 hz2 rfl (by decide) H9.out rfl (some ⟨x5.heap.size, 0, none⟩) 1 1 [.int .i64 k, .int .i64 x] rfl rfl HN.out (by simp [Value.oneCell']) (by unfold maxLen; omega) (by omega) ?_; intro v1 w5 hs6; have H6 := hid hs6; clear hs6)
        go_roundw
        case rel =>
         refine ⟨i + 1, ?_, by omega, by go_num, ?_, ?_⟩
         rotate_left
         ·rw [HST.out, HDS.out, List.length_append]; exact Nat.succ_le_succ hol
         ·rw [HST.out, HDS.out, List.length_append, pcells_append]; exact H6.out
        case measure => simp [intOf]; omega
     ·obtain rfl : i = ss.length := by omega
      rw [List.take_length, ← HD.out] at hsr
      have H9 := hid hsr
      clear hsr hol H7
      go_wp2_with fail
      go_ret
      exact ⟨_, rfl, (H9.out.rot3.tail.conv (M := sl 91 2 u10 (tbDrop t tx).2.length (pcells (tbDrop t tx).2) :: tabM 3 b o bh bl bb E2 (tbDrop t tx).1 :: L) (by simp only [all])).swap.tab_made.swap⟩
end Go.Proofs.YtdlkjppppdminaaGreatDoor
/- The program's table of locks: who lets go, of whatever table; the fact of the law. -/
namespace Go.Proofs.YtdlkjppppdminaaGreatDoor
open Go Go.RowKit Go.Sep
set_option maxRecDepth 40000 in
theorem tdrop_zero (w0 w : World) (b o : Nat) (tx : Int) (L : List HProp) (hs : S w0 w (cells b o [.map none, .map none, .map none] :: L)) :
  Calls Tryz.prog 162 #[.pointer (some ⟨b, o, none⟩), .int .i64 tx] w fun e w' => e = .returned (.slice none 0 0) ∧ S w0 w' (cells b o [.map none, .map none, .map none] :: L) := by
 have hs1 := hs.alloc #[.int .i64 tx] 3
 have c0 := hs1.swap.cells_cell 0 rfl
 have c1 := hs1.swap.cells_cell 1 rfl
 have c2 := hs1.swap.cells_cell 2 rfl
 rw [Nat.add_zero] at c0
 have ct := hs1.blk_cell 0 rfl
 have l2 := Tryz.look2n (w.alloc (.cells #[.int .i64 tx] 3)).drew tx
 have ur := run_range_none (P := Tryz.prog) Tryz.underlying101 (w.alloc (.cells #[.int .i64 tx] 3)).drew
 have hs2 := (hs1.alloc_obj (.mapIter none 0 #[] 0) (by simp)).drew
 have un := run_next_none (P := Tryz.prog) (ty := 0) hs2.obj
 have e1 : (w.alloc (.cells #[.int .i64 tx] 3)).heap.size = w.heap.size + 1 := by simp
 have e2 : (w.alloc (.cells #[.int .i64 tx] 3)).drew.heap.size = w.heap.size + 1 := by simp
 rw [e1] at un
 rw [e2] at ur
 have H1 := hid hs2
 clear hs hs1 hs2 e1 e2
 go_enter Tryz.func162, Tryz.ntmps162
 go_wp2_with fail
 go_region
 go_wp2_with fail
 refine wp_loop_rounds 1 ?_
 rw [rounds_succ]
 go_wp2_with fail
 with_reducible refine (Tryz.slices_Sort_int_none none 0 _).mono ?_
 rintro e w5 ⟨rfl, rfl⟩
 go_wp2_with fail
 refine wp_loop_rounds 1 ?_
 rw [rounds_succ]
 go_wp2_with fail
 go_ret
 exact ⟨rfl, H1.out.tail.tail⟩
theorem tdrop_any (w0 w : World) (b o : Nat) (t : Tbl) (tx : Int) (L : List HProp) (hs : S w0 w (tabP 3 b o t :: L)) (hb : ∀ k, (lineAt t k).length ≤ 1000000) (hh : t.hold.length ≤ 1000000) :
  Calls Tryz.prog 162 #[.pointer (some ⟨b, o, none⟩), .int .i64 tx] w fun e w' => ∃ v', e = .returned v' ∧
   S w0 w' (sl 91 2 v' (tbDrop t tx).2.length (pcells (tbDrop t tx).2) :: tabP 3 b o (tbDrop t tx).1 :: L) := by
 rcases hs.tab_cases with h0 | ⟨bh, bl, bb, E, h⟩
 ·obtain ⟨rfl, h1⟩ := h0.tab0_cells
  refine (tdrop_zero w0 w b o tx L h1).mono fun e w' ⟨he, h2⟩ => ⟨_, he, ?_⟩
  have e1 : tbDrop ⟨[], [], []⟩ tx = (⟨[], [], []⟩, []) := by simp [tbDrop, strikeT, mget_nil, holders, sortI]
  rw [e1]
  exact h2.tab_zero.sl_nil
 ·exact tdrop_made w0 w b o bh bl bb E t tx L h hb hh
end Go.Proofs.YtdlkjppppdminaaGreatDoor
/- The program's engine: the small readers. -/
namespace Go.Proofs.YtdlkjppppdminaaGreatDoor
open Go Go.RowKit Go.Sep
theorem strict_any (p : Nat) (level state : Int) (w : World) (h0 : w.cell? ⟨p, 0, none⟩ = some (.int .i64 level)) (h1 : w.cell? ⟨p, 1, none⟩ = some (.int .i64 state)) :
  Calls Tryz.prog 150 #[.pointer (some ⟨p, 0, none⟩)] w fun e w' => e = .returned (.bool (decide (level = 2) && decide (state ≠ 3))) ∧ w = w' := by
 by_cases hl : level = 2
 ·subst hl
  by_cases hs : state = 3
  ·subst hs
   go_enter Tryz.func150, Tryz.ntmps150
   go_wp2
   go_ret
   exact ⟨rfl, rfl⟩
  ·have hb : (state != 3) = true := by simpa using hs
   have HF := hid hs
   clear hs
   go_enter Tryz.func150, Tryz.ntmps150
   go_wp2
   go_ret
   exact ⟨by have := HF.out; show Ending.returned (.bool true) = _; simp [this], rfl⟩
 ·have hb : (level == 2) = false := by simpa using hl
  have HF := hid (show (decide (level = 2) && decide (state ≠ 3)) = false by simp [hl])
  clear hl
  go_enter Tryz.func150, Tryz.ntmps150
  go_wp2
  go_ret
  exact ⟨by rw [HF.out]; rfl, rfl⟩
theorem there_any (p : Nat) (state : Int) (w : World) (h1 : w.cell? ⟨p, 1, none⟩ = some (.int .i64 state)) :
  Calls Tryz.prog 167 #[.pointer (some ⟨p, 0, none⟩)] w fun e w' => e = .returned (.bool (state != 3)) ∧ w = w' := by
 go_enter Tryz.func167, Tryz.ntmps167
 go_wp2
 go_ret
 exact ⟨rfl, rfl⟩
def PtrsAt (w : World) (a : Option Addr) (bs : List Nat) (l : List Nat) : Prop := ∀ j p, l[j]? = some p → ∃ g o, a = some ⟨g, o, none⟩ ∧ w.cell? ⟨g, o + j, none⟩ = some (ptr bs p)
def IxPost (w : World) (st : Nat → Int) (l : List Nat) (e : Ending) (w' : World) : Prop := ∃ r : Int, e = .returned (.int .i64 r) ∧ -1 ≤ r ∧ (decide (0 ≤ r) = l.any fun p => decide (st p ≠ 3)) ∧ w = w'
set_option maxRecDepth 20000 in
theorem indexT_any (w : World) (a : Option Addr) (cap : Nat) (bs l : List Nat) (st : Nat → Int) (hl : PtrsAt w a bs l) (hs : ∀ p ∈ l, w.cell? ⟨blkOf bs p, 1, none⟩ = some (.int .i64 (st p))) (hb : l.length ≤ cap) (hc : cap ≤ maxLen) :
  Calls Tryz.prog 176 #[.slice a l.length cap, .func (.func 167) #[] #[]] w (IxPost w st l) := by
 unfold maxLen at hc
 have HL := hid hl; have HS := hid hs
 clear hl hs
 go_enter Tryz.func176, Tryz.ntmps176
 go_wp2_with fail
 go_loopw [8] (fun x wr => ∃ i : Nat, i ≤ l.length ∧ x = .int .i64 i ∧ Hid (∀ p ∈ l.take i, st p = 3) ∧ wr = w) (fun x _ => l.length - (intOf x).toNat)
 case atStart => exact ⟨0, Nat.zero_le _, rfl, hid (by simp), rfl⟩
 case round =>
  obtain ⟨i, hi, rfl, hno, rfl⟩ := hrel
  by_cases hlt : i < l.length
  ·have hp : l[i]? = some l[i] := by simp [hlt]
   generalize l[i] = p at hp
   obtain ⟨g, og, rfl, c1⟩ := HL.out _ _ hp
   have c2 := HS.out p (List.mem_of_getElem? hp)
   unfold ptr at c1
   have HP := hid hp
   clear hp
   by_cases hx : st p = 3
   ·have hn : Hid (∀ q ∈ l.take (i + 1), st q = 3) := hid (by
     rw [take_succ_get HP.out]
     intro q hq
     rcases List.mem_append.1 hq with hq | hq
     ·exact hno.out q hq
     ·simp only [List.mem_singleton] at hq; subst hq; exact hx)
    have hbe : (st p != 3) = false := by simp [hx]
    clear hx hno
    go_wp2_with (go_at_call 167; refine (there_any _ _ _ c2).mono ?_; rintro e w' ⟨rfl, rfl⟩)
    go_roundw
    case rel => exact ⟨i + 1, by omega, by go_num, hn, trivial⟩
    case measure => simp [intOf]; omega
   ·have hbe : (st p != 3) = true := by simpa using hx
    have HF := hid (show (l.any fun p => decide (st p ≠ 3)) = true by
     rw [List.any_eq_true]; exact ⟨p, List.mem_of_getElem? HP.out, by simpa using hx⟩)
    clear hx hno
    go_wp2_with (go_at_call 167; refine (there_any _ _ _ c2).mono ?_; rintro e w' ⟨rfl, rfl⟩)
    go_ret
    exact ⟨i, rfl, by omega, by rw [HF.out]; simp, rfl⟩
  ·have HF := hid (show (l.any fun p => decide (st p ≠ 3)) = false by
    rw [List.any_eq_false]
    intro p hp
    have := hno.out p (by rw [List.take_of_length_le (by omega)]; exact hp)
    simp [this])
   clear hno
   go_wp2_with fail
   go_ret
   exact ⟨-1, rfl, by omega, by rw [HF.out]; simp, rfl⟩
theorem containsT_any (w : World) (a : Option Addr) (cap : Nat) (bs l : List Nat) (st : Nat → Int) (hl : PtrsAt w a bs l) (hs : ∀ p ∈ l, w.cell? ⟨blkOf bs p, 1, none⟩ = some (.int .i64 (st p))) (hb : l.length ≤ cap) (hc : cap ≤ maxLen) :
  Calls Tryz.prog 168 #[.slice a l.length cap, .func (.func 167) #[] #[]] w fun e w' => e = .returned (.bool (l.any fun p => decide (st p ≠ 3))) ∧ w = w' := by
 have HC := hid (indexT_any w a cap bs l st hl hs hb hc)
 clear hl hs
 go_enter Tryz.func168, Tryz.ntmps168
 go_wp2_with fail
 with_reducible refine HC.out.mono ?_
 rintro e w' ⟨r, rfl, hr, hd, rfl⟩
 have HD := hid hd
 clear hd
 go_wp2_with fail
 go_ret
 exact ⟨by rw [← HD.out]; rfl, rfl⟩
theorem middle_any (w : World) (p : Nat) (v : TxV) (x : Tx) (bs : List Nat) (st : Nat → Int) (hx : TxC w bs p v x) (af ag : Option Addr) (cf cg : Nat) (hf : v.fv = .slice af x.fore.length cf) (hg : v.av = .slice ag x.aft.length cg) (hlf : PtrsAt w af bs x.fore) (hlg : PtrsAt w ag bs x.aft)
  (hs : ∀ p ∈ x.fore ++ x.aft, w.cell? ⟨blkOf bs p, 1, none⟩ = some (.int .i64 (st p))) (hb1 : x.fore.length ≤ cf) (hc1 : cf ≤ maxLen) (hb2 : x.aft.length ≤ cg) (hc2 : cg ≤ maxLen) :
  Calls Tryz.prog 141 #[.pointer (some ⟨p, 0, none⟩)] w fun e w' => e = .returned (.bool ((x.fore.any fun p => decide (st p ≠ 3)) && (x.aft.any fun p => decide (st p ≠ 3)))) ∧ w = w' := by
 have h1 := containsT_any w af cf bs x.fore st hlf (fun p hp => hs p (by simp [hp])) hb1 hc1
 have h2 := containsT_any w ag cg bs x.aft st hlg (fun p hp => hs p (by simp [hp])) hb2 hc2
 have c9 := hx.fore
 have c10 := hx.aft
 rw [hf] at c9
 rw [hg] at c10
 generalize (x.fore.any fun p => decide (st p ≠ 3)) = b1 at h1 ⊢
 generalize (x.aft.any fun p => decide (st p ≠ 3)) = b2 at h2 ⊢
 have H1 := hid h1; have H2 := hid h2
 clear h1 h2 hx hf hg hlf hlg hs hb1 hc1 hb2 hc2
 cases b1
 ·go_enter Tryz.func141, Tryz.ntmps141
  go_wp2_with fail
  with_reducible refine H1.out.mono ?_
  rintro e w' ⟨rfl, rfl⟩
  go_wp2_with fail
  go_ret
  exact ⟨rfl, rfl⟩
 ·go_enter Tryz.func141, Tryz.ntmps141
  go_wp2_with fail
  with_reducible refine H1.out.mono ?_
  rintro e w' ⟨rfl, rfl⟩
  go_wp2_with fail
  with_reducible refine H2.out.mono ?_
  rintro e w' ⟨rfl, rfl⟩
  go_wp2_with fail
  go_ret
  exact ⟨by simp, rfl⟩
theorem middle_eng (w0 w : World) (b : Nat) (bs : List Nat) (k : EngV) (e : Eng) (i : Nat) (L : List HProp) (hs : S w0 w (engO b bs k e :: L)) (hi : i < e.txs.length) (hr : ∀ j ∈ (e.tx i).fore ++ (e.tx i).aft, j < e.txs.length) :
  Calls Tryz.prog 141 #[.pointer (some ⟨blkOf bs i, 0, none⟩)] w fun r w' => r = .returned (.bool (e.middle i)) ∧ w = w' := by
 have hx := (hs.eng_txc hi).2
 obtain ⟨af, cf, h1, h2, h3, h4⟩ := hx.fs
 obtain ⟨ag, cg, g1, g2, g3, g4⟩ := hx.as_
 exact middle_any w (blkOf bs i) (k.v i) (e.tx i) bs (fun p => (e.tx p).state) hx af ag cf cg h1 g1 h4 g4 (fun p hp => (hs.eng_txc (hr p hp)).2.state) h2 h3 g2 g3
theorem strict_eng (w0 w : World) (b : Nat) (bs : List Nat) (k : EngV) (e : Eng) (i : Nat) (L : List HProp) (hs : S w0 w (engO b bs k e :: L)) (hi : i < e.txs.length) :
  Calls Tryz.prog 150 #[.pointer (some ⟨blkOf bs i, 0, none⟩)] w fun r w' => r = .returned (.bool (e.tx i).strict) ∧ w = w' := by
 have hx := (hs.eng_txc hi).2
 exact strict_any (blkOf bs i) (e.tx i).level (e.tx i).state w hx.level hx.state
end Go.Proofs.YtdlkjppppdminaaGreatDoor
/- The program's engine: one transaction is noted to be ahead of another one. -/
namespace Go.Proofs.YtdlkjppppdminaaGreatDoor
open Go Go.RowKit Go.Sep
theorem Tryz.info167 : (Tryz.prog.info? 167).map (fun i => (i.zero, i.size, i.bytes)) = some (some (.pointer none), 1, 8) := by kernel_rfl
theorem blk_ne {w : World} {b : Nat} {bs : List Nat} {k : EngV} {e : Eng} {i j : Nat} (h : EngC w b bs k e) (hi : i < e.txs.length) (hj : j < e.txs.length) (hij : i ≠ j) : blkOf bs i ≠ blkOf bs j := by
 obtain ⟨h1, h2⟩ := h.len
 unfold blkOf
 rw [List.getElem?_eq_getElem (by omega), List.getElem?_eq_getElem (by omega)]
 intro he
 exact hij ((List.getElem_inj h2).1 he)
theorem note_refs {e : Eng} {i j : Nat} (hr : ∀ x ∈ e.txs, ∀ m ∈ x.fore ++ x.aft, m < e.txs.length) (hi : i < e.txs.length) (hj : j < e.txs.length) : ∀ x ∈ (e.note i j).txs, ∀ m ∈ x.fore ++ x.aft, m < (e.note i j).txs.length := by
 rw [Eng.note_len]
 unfold Eng.note
 refine Eng.upd_all (p := fun x => ∀ m ∈ x.fore ++ x.aft, m < e.txs.length) (Eng.upd_all (p := fun x => ∀ m ∈ x.fore ++ x.aft, m < e.txs.length) hr fun hi => ?_) fun hj' => ?_
 ·intro m hm
  simp only [List.mem_append, List.mem_singleton] at hm
  rcases hm with hm | hm | rfl
  ·exact hr _ (Eng.tx_mem hi) m (by simp [hm])
  ·exact hr _ (Eng.tx_mem hi) m (by simp [hm])
  ·exact hj
 ·have h1 : ∀ m ∈ ((e.upd i fun x => { x with aft := x.aft ++ [j] }).tx j).fore ++ ((e.upd i fun x => { x with aft := x.aft ++ [j] }).tx j).aft, m < e.txs.length :=
   Eng.upd_all (p := fun x => ∀ m ∈ x.fore ++ x.aft, m < e.txs.length) hr (fun hi => by
    intro m hm
    simp only [List.mem_append, List.mem_singleton] at hm
    rcases hm with hm | hm | rfl
    ·exact hr _ (Eng.tx_mem hi) m (by simp [hm])
    ·exact hr _ (Eng.tx_mem hi) m (by simp [hm])
    ·exact hj) _ (Eng.tx_mem hj')
  intro m hm
  simp only [List.mem_append, List.mem_singleton] at hm h1
  rcases hm with (hm | rfl) | hm
  ·exact h1 m (.inl hm)
  ·exact hi
  ·exact h1 m (.inr hm)
theorem one_ptr (bs : List Nat) (j : Nat) : ∀ u ∈ [ptr bs j], u.oneCell' = true := by
 intro u hu; simp only [List.mem_singleton] at hu; subst hu; rfl
set_option maxRecDepth 40000 in
set_option maxHeartbeats 8000000 in
theorem noted_any (w0 w : World) (b : Nat) (bs : List Nat) (k : EngV) (e : Eng) (i j : Nat) (L : List HProp) (hs : S w0 w (engO b bs k e :: L)) (hi : i < e.txs.length) (hj : j < e.txs.length) (hij : i ≠ j)
  (ha : (e.tx i).aft.length + 1 ≤ 1000000000000) (hf : (e.tx j).fore.length + 1 ≤ 1000000000000) (hr : ∀ x ∈ e.txs, ∀ m ∈ x.fore ++ x.aft, m < e.txs.length) :
  Calls Tryz.prog 151 #[.pointer (some ⟨b, 0, none⟩), ptr bs i, ptr bs j] w fun r w' => ∃ k', k'.txv = k.txv ∧ r = .returned (.bool (!((e.note i j).bad i j))) ∧ S w0 w' (engO b bs k' (e.note i j) :: L) := by
 obtain ⟨i0, hi0, hz0, hz1, hz2⟩ := info_parts Tryz.info167
 have h2 := hs.eng_two hi hj hij
 obtain ⟨aa, ca, hva, hca, hca2, _⟩ := h2.sl_val
 obtain ⟨af, cf, hvf, hcf, hcf2, _⟩ := h2.swap.sl_val
 have hbi : blkOf bs i ≠ blkOf bs j := blk_ne hs.eng_c.2 hi hj hij
 have hc2 : ∀ (W : World) v x, W.cell? ⟨blkOf bs j, 9, none⟩ = some x → (W.setCell ⟨blkOf bs i, 10, none⟩ v).cell? ⟨blkOf bs j, 9, none⟩ = some x := fun W v x h => by rw [World.cell?_setCell_far _ _ _ _ hbi]; exact h
 have hc3 : ∀ (W : World) v, W.frozen? ⟨blkOf bs j, 9, none⟩ = false → (W.setCell ⟨blkOf bs i, 10, none⟩ v).frozen? ⟨blkOf bs j, 9, none⟩ = false := fun W v h => by simpa using h
 have hc : ∀ W M, S w0 W (twoX b bs k e i j :: M) → W.cell? ⟨blkOf bs i, 10, none⟩ = some (k.v i).av ∧ W.cell? ⟨blkOf bs j, 9, none⟩ = some (k.v j).fv ∧ W.frozen? ⟨blkOf bs i, 10, none⟩ = false ∧ W.frozen? ⟨blkOf bs j, 9, none⟩ = false := fun W M h => h.two_cells
 have hq : ∀ W M, S w0 W (twoX b bs k e i j :: M) → W.cell? ⟨blkOf bs i, 10, none⟩ = some (.slice aa (e.tx i).aft.length ca) ∧ W.cell? ⟨blkOf bs j, 9, none⟩ = some (.slice af (e.tx j).fore.length cf) := fun W M h => by
  have := h.two_cells; rw [hva, hvf] at this; exact ⟨this.1, this.2.1⟩
 rw [hva, hvf] at h2
 have hcl : ∀ W av fv, S w0 W (sl 167 1 av ((e.tx i).aft.length + 1) (ptrs bs (e.tx i).aft ++ [ptr bs j]) :: sl 167 1 fv ((e.tx j).fore.length + 1) (ptrs bs (e.tx j).fore ++ [ptr bs i]) :: twoX b bs k e i j :: L) → ∃ k', k'.txv = k.txv ∧ S w0 ((W.setCell ⟨blkOf bs i, 10, none⟩ av).setCell ⟨blkOf bs j, 9, none⟩ fv) (engO b bs k' (e.note i j) :: L) := fun W av fv h => h.two_close hi hj hij
 have HS0 := hid h2; have HCL := hid hcl; have HQ := hid hq; have HC := hid hc; have HC2 := hid hc2; have HC3 := hid hc3; have HA := hid ha; have HF := hid hf
 clear hs h2 hcl hq hc hc2 hc3 hbi ha hf hca hca2 hcf hcf2 hva hvf
 have HR := hid (note_refs hr hi hj); have HI := hid hi; have HJ := hid hj
 have HLN := hid (Eng.note_len e i j)
 clear hr hi hj hij
 unfold ptr
 go_enter Tryz.func151, Tryz.ntmps151
 go_wp2_with fail
 go_cut [] (fun wx => ∃ k', k'.txv = k.txv ∧ S w0 wx (engO b bs k' (e.note i j) :: L))
 case first =>
  refine region_U (S := fun w' => w'.cell? ⟨blkOf bs i, 10, none⟩ = some (.slice aa (e.tx i).aft.length ca) ∧ w'.cell? ⟨blkOf bs j, 9, none⟩ = some (.slice af (e.tx j).fore.length cf)) (u := 18) (by kernel_rfl) (HQ.out _ _ (HS0.out.drew.nth 2 rfl)) (fun hHeld => ?_)
  refine anyU_take (i := 0) (v := ?_) rfl (by kernel_rfl) (fun _ _ _ h => h) (Or.inl ⟨by rfl, ?_⟩) hHeld ?_
  rotate_left
  ·(intro w hSw; (try dsimp only at hSw); go_simp) <;> with_reducible rfl
  try simp only [Act.put, List.setIfInBounds_toArray]
  refine anyU_pure (i := 1) (v := ?_) rfl (by kernel_rfl) (fun _ _ _ h => h) (Or.inl ⟨by rfl, ?_⟩) (fun _ => hHeld) ?_
  rotate_left
  ·(intro w _; go_simp) <;> with_reducible rfl
  try simp only [Act.put]
  refine anyU_take (i := 2) (v := ?_) rfl (by kernel_rfl) (fun _ _ _ h => h) (Or.inl ⟨by rfl, ?_⟩) hHeld ?_
  rotate_left
  ·(intro w hSw; (try dsimp only at hSw); go_simp) <;> with_reducible rfl
  try simp only [Act.put]
  refine anyU_take (i := 3) (v := ?_) rfl (by kernel_rfl) (fun _ _ _ h => h) (Or.inl ⟨by rfl, ?_⟩) hHeld ?_
  rotate_left
  ·(intro w hSw; (try dsimp only at hSw); go_simp) <;> with_reducible rfl
  try simp only [Act.put]
  refine anyU_take (i := 4) (v := ?_) rfl (by kernel_rfl) (fun _ _ _ h => h) (Or.inl ⟨by rfl, ?_⟩) hHeld ?_
  rotate_left
  ·(intro w hSw; (try dsimp only at hSw); go_simp) <;> with_reducible rfl
  try simp only [Act.put]
  refine anyU_take (i := 5) (v := ?_) rfl (by kernel_rfl) (fun _ _ _ h => h) (Or.inl ⟨by rfl, ?_⟩) hHeld ?_
  rotate_left
  ·(intro w hSw; (try dsimp only at hSw); go_simp) <;> with_reducible rfl
  try simp only [Act.put]
  refine anyU_take (i := 6) (v := ?_) rfl (by kernel_rfl) (fun _ _ _ h => h) (Or.inl ⟨by rfl, ?_⟩) hHeld ?_
  rotate_left
  ·(intro w hSw; (try dsimp only at hSw); go_simp) <;> with_reducible rfl
  try simp only [Act.put]
  refine anyU_pure (i := 9) (v := ?_) rfl (by kernel_rfl) (fun _ _ _ h => h) (Or.inl ⟨by rfl, ?_⟩) (fun _ => hHeld) ?_
  rotate_left
  ·(intro w _; go_simp) <;> with_reducible rfl
  try simp only [Act.put]
  refine anyU_pure (i := 10) (v := ?_) rfl (by kernel_rfl) (fun _ _ _ h => h) (Or.inl ⟨by rfl, ?_⟩) (fun _ => hHeld) ?_
  rotate_left
  ·(intro w _; go_simp) <;> with_reducible rfl
  try simp only [Act.put]
  refine anyU_pure (i := 11) (v := ?_) rfl (by kernel_rfl) (fun _ _ _ h => h) (Or.inl ⟨by rfl, ?_⟩) (fun _ => hHeld) ?_
  rotate_left
  ·(intro w _; go_simp) <;> with_reducible rfl
  try simp only [Act.put]
  refine anyU_take (i := 12) (v := ?_) rfl (by kernel_rfl) (fun _ _ _ h => h) (Or.inl ⟨by rfl, ?_⟩) hHeld ?_
  rotate_left
  ·(intro w hSw; (try dsimp only at hSw); go_simp) <;> with_reducible rfl
  try simp only [Act.put]
  refine anyU_pure (i := 13) (v := ?_) rfl (by kernel_rfl) (fun _ _ _ h => h) (Or.inl ⟨by rfl, ?_⟩) (fun _ => hHeld) ?_
  rotate_left
  ·(intro w _; go_simp) <;> with_reducible rfl
  try simp only [Act.put]
  have HS := hid HS0.out.drew
  clear hHeld
  refine anyU_world (fun w => Hid (S w0 w _)) HS (fun w1 HS => ?_)
  clear HS0
  refine anyU_next (rs := [7, 14]) (by kernel_rfl) (by simp) ?_
  refine NextU.cons rfl (fun K hK => ?_) ?_
  ·go_simp
   replace HS := hid (HS.out.alloc_slU (e := 167) (size := 1) [ptr bs j] 1 rfl (by unfold maxLen; omega))
   generalize w1.heap.size = b7 at HS ⊢
   refine act_any (fun w => Hid (S w0 w _)) HS (fun w2 HS => ?_)
   refine hK.out _ _ (fun _ => (HQ.out _ _ (HS.out.nth 3 rfl))) ?_
   clear hK K
   refine anyU_next (rs := [8, 14]) (by kernel_rfl) (by simp) ?_
   refine NextU.cons rfl (fun K hK => ?_) ?_
   ·refine step_appU rfl (.tmp 14) (.tmp 16) 105 rfl 167 i0 _ 1 8 Tryz.underlying105 hi0 hz0 hz1 hz2 rfl (by decide) HS.out 1 (by rfl) (by rfl) _ 1 1 [ptr bs j] (by rfl) rfl (HS.out.news_slK 0 (by rfl)) (one_ptr bs j) HA.out (by decide) ?_
    intro v8 w3 hs
    replace HS := hid hs
    clear hs
    obtain ⟨p8, c8, rfl, _, _, _⟩ := HS.out.sl_val
    refine hK.out _ _ (fun _ => (HQ.out _ _ (HS.out.nth 3 rfl))) ?_
    clear hK K
    try simp only [Act.put]
    refine anyU_next (rs := [14]) (by kernel_rfl) (by simp) ?_
    refine NextU.cons rfl (fun K hK => ?_) ?_
    ·go_simp
     replace HS := hid (HS.out.alloc_slU (e := 167) (size := 1) [ptr bs i] 1 rfl (by unfold maxLen; omega))
     generalize w3.heap.size = b14 at HS ⊢
     refine act_any (fun w => Hid (S w0 w _)) HS (fun w4 HS => ?_)
     refine hK.out _ _ (fun _ => (HQ.out _ _ (HS.out.nth 4 rfl))) ?_
     clear hK K
     refine anyU_next (rs := [15]) (by kernel_rfl) (by simp) ?_
     refine NextU.cons rfl (fun K hK => ?_) ?_
     ·refine step_appU rfl (.tmp 21) (.tmp 23) 105 rfl 167 i0 _ 1 8 Tryz.underlying105 hi0 hz0 hz1 hz2 rfl (by decide) HS.out 3 (by rfl) (by rfl) _ 1 1 [ptr bs i] (by rfl) rfl (HS.out.news_slK 0 (by rfl)) (one_ptr bs i) HF.out (by decide) ?_
      intro v15 w5 hs
      replace HS := hid hs
      clear hs
      obtain ⟨p15, c15, rfl, _, _, _⟩ := HS.out.sl_val
      refine hK.out _ _ (fun _ => (HQ.out _ _ (HS.out.nth 4 rfl))) ?_
      clear hK K
      try simp only [Act.put]
      refine anyU_pure (i := 16) (v := ?_) rfl (by kernel_rfl) (fun _ _ _ h => h) (Or.inl ⟨by rfl, ?_⟩) (fun _ => (HQ.out _ _ (HS.out.nth 4 rfl))) ?_
      rotate_left
      ·(intro w _; go_simp) <;> with_reducible rfl
      try simp only [Act.put]
      refine anyU_take (i := 17) (v := ?_) rfl (by kernel_rfl) (fun _ _ _ h => h) (Or.inl ⟨by rfl, ?_⟩) (HQ.out _ _ (HS.out.nth 4 rfl)) ?_
      rotate_left
      ·(intro w hSw; (try dsimp only at hSw); go_simp) <;> with_reducible rfl
      try simp only [Act.put]
      refine anyU_next (rs := [18]) (by kernel_rfl) (by simp) ?_
      refine NextU.cons rfl (fun K hK => ?_) ?_
      ·have q1 := (HC.out _ _ (HS.out.nth 4 rfl)).1
       have q2 := (HC.out _ _ (HS.out.nth 4 rfl)).2.2.1
       go_simp
       refine hK.out _ _ (fun h => Bool.noConfusion (show true = false from h)) ?_
       clear hK K q1 q2
       refine anyU_pure (i := 19) (v := ?_) rfl (by kernel_rfl) (fun _ _ _ h => h) (Or.inl ⟨by rfl, ?_⟩) (fun h => Bool.noConfusion (show true = false from h)) ?_
       rotate_left
       ·(intro w _; go_simp) <;> with_reducible rfl
       try simp only [Act.put]
       refine anyU_pure (i := 20) (v := ?_) rfl (by kernel_rfl) (fun _ _ _ h => h) (Or.inl ⟨by rfl, ?_⟩) (fun h => Bool.noConfusion (show true = false from h)) ?_
       rotate_left
       ·(intro w _; go_simp) <;> with_reducible rfl
       try simp only [Act.put]
       refine anyU_next (rs := [21]) (by kernel_rfl) (by simp) ?_
       refine NextU.cons rfl (fun K hK => ?_) ?_
       ·have q1 := HC2.out _ (.slice p8 ((e.tx i).aft.length + 1) c8) _ (HC.out _ _ (HS.out.nth 4 rfl)).2.1
        have q2 := HC3.out _ (.slice p8 ((e.tx i).aft.length + 1) c8) (HC.out _ _ (HS.out.nth 4 rfl)).2.2.2
        go_simp
        refine hK.out _ _ (fun h => Bool.noConfusion (show true = false from h)) ?_
        clear hK K q1 q2
        refine anyU_done (by kernel_rfl) ?_ _
        go_wp2_with fail
        go_meet
        have HZ := HS.out
        simp only [List.eraseIdx_cons_succ, List.eraseIdx_cons_zero] at HZ
        exact HCL.out _ _ _ (HZ.conv (M := sl 167 1 (.slice (some ⟨b7, 0, none⟩) 1 1) 1 [ptr bs j] :: sl 167 1 (.slice (some ⟨b14, 0, none⟩) 1 1) 1 [ptr bs i] :: sl 167 1 (.slice p8 ((e.tx i).aft.length + 1) c8) ((e.tx i).aft.length + 1) (ptrs bs (e.tx i).aft ++ [ptr bs j]) :: sl 167 1 (.slice p15 ((e.tx j).fore.length + 1) c15) ((e.tx j).fore.length + 1) (ptrs bs (e.tx j).fore ++ [ptr bs i]) :: twoX b bs k e i j :: L) (by simp only [all]; ac_rfl)).tail.tail
       exact NextU.nil
      exact NextU.nil
     exact NextU.nil
    exact NextU.nil
   refine NextU.cons rfl (fun K hK => ?_) ?_
   ·go_simp
    replace HS := hid (HS.out.alloc_slU (e := 167) (size := 1) [ptr bs i] 1 rfl (by unfold maxLen; omega))
    generalize w2.heap.size = b14 at HS ⊢
    refine act_any (fun w => Hid (S w0 w _)) HS (fun w3 HS => ?_)
    refine hK.out _ _ (fun _ => (HQ.out _ _ (HS.out.nth 4 rfl))) ?_
    clear hK K
    refine anyU_next (rs := [8]) (by kernel_rfl) (by simp) ?_
    refine NextU.cons rfl (fun K hK => ?_) ?_
    ·refine step_appU rfl (.tmp 14) (.tmp 16) 105 rfl 167 i0 _ 1 8 Tryz.underlying105 hi0 hz0 hz1 hz2 rfl (by decide) HS.out 2 (by rfl) (by rfl) _ 1 1 [ptr bs j] (by rfl) rfl (HS.out.news_slK 1 (by rfl)) (one_ptr bs j) HA.out (by decide) ?_
     intro v8 w4 hs
     replace HS := hid hs
     clear hs
     obtain ⟨p8, c8, rfl, _, _, _⟩ := HS.out.sl_val
     refine hK.out _ _ (fun _ => (HQ.out _ _ (HS.out.nth 4 rfl))) ?_
     clear hK K
     try simp only [Act.put]
     refine anyU_next (rs := [15]) (by kernel_rfl) (by simp) ?_
     refine NextU.cons rfl (fun K hK => ?_) ?_
     ·refine step_appU rfl (.tmp 21) (.tmp 23) 105 rfl 167 i0 _ 1 8 Tryz.underlying105 hi0 hz0 hz1 hz2 rfl (by decide) HS.out 3 (by rfl) (by rfl) _ 1 1 [ptr bs i] (by rfl) rfl (HS.out.news_slK 1 (by rfl)) (one_ptr bs i) HF.out (by decide) ?_
      intro v15 w5 hs
      replace HS := hid hs
      clear hs
      obtain ⟨p15, c15, rfl, _, _, _⟩ := HS.out.sl_val
      refine hK.out _ _ (fun _ => (HQ.out _ _ (HS.out.nth 4 rfl))) ?_
      clear hK K
      try simp only [Act.put]
      refine anyU_pure (i := 16) (v := ?_) rfl (by kernel_rfl) (fun _ _ _ h => h) (Or.inl ⟨by rfl, ?_⟩) (fun _ => (HQ.out _ _ (HS.out.nth 4 rfl))) ?_
      rotate_left
      ·(intro w _; go_simp) <;> with_reducible rfl
      try simp only [Act.put]
      refine anyU_take (i := 17) (v := ?_) rfl (by kernel_rfl) (fun _ _ _ h => h) (Or.inl ⟨by rfl, ?_⟩) (HQ.out _ _ (HS.out.nth 4 rfl)) ?_
      rotate_left
      ·(intro w hSw; (try dsimp only at hSw); go_simp) <;> with_reducible rfl
      try simp only [Act.put]
      refine anyU_next (rs := [18]) (by kernel_rfl) (by simp) ?_
      refine NextU.cons rfl (fun K hK => ?_) ?_
      ·have q1 := (HC.out _ _ (HS.out.nth 4 rfl)).1
       have q2 := (HC.out _ _ (HS.out.nth 4 rfl)).2.2.1
       go_simp
       refine hK.out _ _ (fun h => Bool.noConfusion (show true = false from h)) ?_
       clear hK K q1 q2
       refine anyU_pure (i := 19) (v := ?_) rfl (by kernel_rfl) (fun _ _ _ h => h) (Or.inl ⟨by rfl, ?_⟩) (fun h => Bool.noConfusion (show true = false from h)) ?_
       rotate_left
       ·(intro w _; go_simp) <;> with_reducible rfl
       try simp only [Act.put]
       refine anyU_pure (i := 20) (v := ?_) rfl (by kernel_rfl) (fun _ _ _ h => h) (Or.inl ⟨by rfl, ?_⟩) (fun h => Bool.noConfusion (show true = false from h)) ?_
       rotate_left
       ·(intro w _; go_simp) <;> with_reducible rfl
       try simp only [Act.put]
       refine anyU_next (rs := [21]) (by kernel_rfl) (by simp) ?_
       refine NextU.cons rfl (fun K hK => ?_) ?_
       ·have q1 := HC2.out _ (.slice p8 ((e.tx i).aft.length + 1) c8) _ (HC.out _ _ (HS.out.nth 4 rfl)).2.1
        have q2 := HC3.out _ (.slice p8 ((e.tx i).aft.length + 1) c8) (HC.out _ _ (HS.out.nth 4 rfl)).2.2.2
        go_simp
        refine hK.out _ _ (fun h => Bool.noConfusion (show true = false from h)) ?_
        clear hK K q1 q2
        refine anyU_done (by kernel_rfl) ?_ _
        go_wp2_with fail
        go_meet
        have HZ := HS.out
        simp only [List.eraseIdx_cons_succ, List.eraseIdx_cons_zero] at HZ
        exact HCL.out _ _ _ (HZ.conv (M := sl 167 1 (.slice (some ⟨b7, 0, none⟩) 1 1) 1 [ptr bs j] :: sl 167 1 (.slice (some ⟨b14, 0, none⟩) 1 1) 1 [ptr bs i] :: sl 167 1 (.slice p8 ((e.tx i).aft.length + 1) c8) ((e.tx i).aft.length + 1) (ptrs bs (e.tx i).aft ++ [ptr bs j]) :: sl 167 1 (.slice p15 ((e.tx j).fore.length + 1) c15) ((e.tx j).fore.length + 1) (ptrs bs (e.tx j).fore ++ [ptr bs i]) :: twoX b bs k e i j :: L) (by simp only [all]; ac_rfl)).tail.tail
       exact NextU.nil
      exact NextU.nil
     exact NextU.nil
    exact NextU.nil
   exact NextU.nil
  refine NextU.cons rfl (fun K hK => ?_) ?_
  ·go_simp
   replace HS := hid (HS.out.alloc_slU (e := 167) (size := 1) [ptr bs i] 1 rfl (by unfold maxLen; omega))
   generalize w1.heap.size = b14 at HS ⊢
   refine act_any (fun w => Hid (S w0 w _)) HS (fun w2 HS => ?_)
   refine hK.out _ _ (fun _ => (HQ.out _ _ (HS.out.nth 3 rfl))) ?_
   clear hK K
   refine anyU_next (rs := [7]) (by kernel_rfl) (by simp) ?_
   refine NextU.cons rfl (fun K hK => ?_) ?_
   ·go_simp
    replace HS := hid (HS.out.alloc_slU (e := 167) (size := 1) [ptr bs j] 1 rfl (by unfold maxLen; omega))
    generalize w2.heap.size = b7 at HS ⊢
    refine act_any (fun w => Hid (S w0 w _)) HS (fun w3 HS => ?_)
    refine hK.out _ _ (fun _ => (HQ.out _ _ (HS.out.nth 4 rfl))) ?_
    clear hK K
    refine anyU_next (rs := [8]) (by kernel_rfl) (by simp) ?_
    refine NextU.cons rfl (fun K hK => ?_) ?_
    ·refine step_appU rfl (.tmp 14) (.tmp 16) 105 rfl 167 i0 _ 1 8 Tryz.underlying105 hi0 hz0 hz1 hz2 rfl (by decide) HS.out 2 (by rfl) (by rfl) _ 1 1 [ptr bs j] (by rfl) rfl (HS.out.news_slK 0 (by rfl)) (one_ptr bs j) HA.out (by decide) ?_
     intro v8 w4 hs
     replace HS := hid hs
     clear hs
     obtain ⟨p8, c8, rfl, _, _, _⟩ := HS.out.sl_val
     refine hK.out _ _ (fun _ => (HQ.out _ _ (HS.out.nth 4 rfl))) ?_
     clear hK K
     try simp only [Act.put]
     refine anyU_next (rs := [15]) (by kernel_rfl) (by simp) ?_
     refine NextU.cons rfl (fun K hK => ?_) ?_
     ·refine step_appU rfl (.tmp 21) (.tmp 23) 105 rfl 167 i0 _ 1 8 Tryz.underlying105 hi0 hz0 hz1 hz2 rfl (by decide) HS.out 3 (by rfl) (by rfl) _ 1 1 [ptr bs i] (by rfl) rfl (HS.out.news_slK 2 (by rfl)) (one_ptr bs i) HF.out (by decide) ?_
      intro v15 w5 hs
      replace HS := hid hs
      clear hs
      obtain ⟨p15, c15, rfl, _, _, _⟩ := HS.out.sl_val
      refine hK.out _ _ (fun _ => (HQ.out _ _ (HS.out.nth 4 rfl))) ?_
      clear hK K
      try simp only [Act.put]
      refine anyU_pure (i := 16) (v := ?_) rfl (by kernel_rfl) (fun _ _ _ h => h) (Or.inl ⟨by rfl, ?_⟩) (fun _ => (HQ.out _ _ (HS.out.nth 4 rfl))) ?_
      rotate_left
      ·(intro w _; go_simp) <;> with_reducible rfl
      try simp only [Act.put]
      refine anyU_take (i := 17) (v := ?_) rfl (by kernel_rfl) (fun _ _ _ h => h) (Or.inl ⟨by rfl, ?_⟩) (HQ.out _ _ (HS.out.nth 4 rfl)) ?_
      rotate_left
      ·(intro w hSw; (try dsimp only at hSw); go_simp) <;> with_reducible rfl
      try simp only [Act.put]
      refine anyU_next (rs := [18]) (by kernel_rfl) (by simp) ?_
      refine NextU.cons rfl (fun K hK => ?_) ?_
      ·have q1 := (HC.out _ _ (HS.out.nth 4 rfl)).1
       have q2 := (HC.out _ _ (HS.out.nth 4 rfl)).2.2.1
       go_simp
       refine hK.out _ _ (fun h => Bool.noConfusion (show true = false from h)) ?_
       clear hK K q1 q2
       refine anyU_pure (i := 19) (v := ?_) rfl (by kernel_rfl) (fun _ _ _ h => h) (Or.inl ⟨by rfl, ?_⟩) (fun h => Bool.noConfusion (show true = false from h)) ?_
       rotate_left
       ·(intro w _; go_simp) <;> with_reducible rfl
       try simp only [Act.put]
       refine anyU_pure (i := 20) (v := ?_) rfl (by kernel_rfl) (fun _ _ _ h => h) (Or.inl ⟨by rfl, ?_⟩) (fun h => Bool.noConfusion (show true = false from h)) ?_
       rotate_left
       ·(intro w _; go_simp) <;> with_reducible rfl
       try simp only [Act.put]
       refine anyU_next (rs := [21]) (by kernel_rfl) (by simp) ?_
       refine NextU.cons rfl (fun K hK => ?_) ?_
       ·have q1 := HC2.out _ (.slice p8 ((e.tx i).aft.length + 1) c8) _ (HC.out _ _ (HS.out.nth 4 rfl)).2.1
        have q2 := HC3.out _ (.slice p8 ((e.tx i).aft.length + 1) c8) (HC.out _ _ (HS.out.nth 4 rfl)).2.2.2
        go_simp
        refine hK.out _ _ (fun h => Bool.noConfusion (show true = false from h)) ?_
        clear hK K q1 q2
        refine anyU_done (by kernel_rfl) ?_ _
        go_wp2_with fail
        go_meet
        have HZ := HS.out
        simp only [List.eraseIdx_cons_succ, List.eraseIdx_cons_zero] at HZ
        exact HCL.out _ _ _ (HZ.conv (M := sl 167 1 (.slice (some ⟨b7, 0, none⟩) 1 1) 1 [ptr bs j] :: sl 167 1 (.slice (some ⟨b14, 0, none⟩) 1 1) 1 [ptr bs i] :: sl 167 1 (.slice p8 ((e.tx i).aft.length + 1) c8) ((e.tx i).aft.length + 1) (ptrs bs (e.tx i).aft ++ [ptr bs j]) :: sl 167 1 (.slice p15 ((e.tx j).fore.length + 1) c15) ((e.tx j).fore.length + 1) (ptrs bs (e.tx j).fore ++ [ptr bs i]) :: twoX b bs k e i j :: L) (by simp only [all]; ac_rfl)).tail.tail
       exact NextU.nil
      exact NextU.nil
     exact NextU.nil
    exact NextU.nil
   exact NextU.nil
  exact NextU.nil
 case rest =>
 rename World => wz
 obtain ⟨k', hk', hs'⟩ := hcut
 have HKK := hid hk'
 clear hk'
 have hI : i < (e.note i j).txs.length := by rw [HLN.out]; exact HI.out
 have hJ : j < (e.note i j).txs.length := by rw [HLN.out]; exact HJ.out
 generalize hE : e.note i j = e' at *
 have HE := hid hE
 clear hE
 have hsx := hs'.alloc #[ptr bs i, ptr bs j] 167
 have hfr := HR.out
 have m1 := middle_eng w0 _ b bs k' e' i _ hsx.swap hI (hfr _ (Eng.tx_mem hI))
 have m2 := middle_eng w0 _ b bs k' e' j _ hsx.swap hJ (hfr _ (Eng.tx_mem hJ))
 have s1 := (hsx.swap.eng_txc hI).2.state
 have s2 := (hsx.swap.eng_txc hJ).2.state
 have x1 := hsx.blk_cell 0 rfl
 have x2 := hsx.blk_cell 1 rfl
 unfold ptr at x1 x2 hsx m1 m2 s1 s2
 have hwi : e'.wrong i = (decide ((e'.tx i).state = 2) && e'.middle i) := rfl
 have hwj : e'.wrong j = (decide ((e'.tx j).state = 2) && e'.middle j) := rfl
 have hbd : e'.bad i j = (e'.wrong i || e'.wrong j) := rfl
 have HB := hid hbd; have HWI := hid hwi; have HWJ := hid hwj
 generalize (e'.tx i).state = si at *
 generalize (e'.tx j).state = sj at *
 generalize e'.middle i = mi at *
 generalize e'.middle j = mj at *
 have HX := hid hsx; have M1 := hid m1; have M2 := hid m2
 clear hs' hsx hfr m1 m2 hwi hwj hbd HR HLN HI HJ hI hJ
 go_wp2_with fail
 go_loopw [33] (fun c wr => ∃ n : Nat, n ≤ 2 ∧ c = .int .i64 n ∧ wr = wz.alloc (.cells #[.pointer (some ⟨blkOf bs i, 0, none⟩), .pointer (some ⟨blkOf bs j, 0, none⟩)] 167) ∧ Hid ((1 ≤ n → e'.wrong i = false) ∧ (2 ≤ n → e'.wrong j = false))) (fun c _ => 2 - (intOf c).toNat)
 case atStart => exact ⟨0, by omega, rfl, rfl, hid ⟨by omega, by omega⟩⟩
 case round =>
  obtain ⟨n, hn, rfl, rfl, hno⟩ := hrel
  have h3 : n = 0 ∨ n = 1 ∨ n = 2 := by omega
  rcases h3 with rfl | rfl | rfl
  ·by_cases h2 : si = 2
   ·subst h2
    cases mi with
    | true =>
     have hf : e'.bad i j = true := by rw [HB.out, HWI.out]; rfl
     have HFN := hid hf
     clear hf hno
     go_wp2_with (go_at_call 141; with_reducible refine M1.out.mono ?_; rintro e w' ⟨rfl, rfl⟩)
     go_ret
     exact ⟨k', HKK.out, by rw [HE.out, HFN.out]; rfl, by rw [HE.out]; exact HX.out.tail⟩
    | false =>
     have hn2 : Hid ((1 ≤ 1 → e'.wrong i = false) ∧ (2 ≤ 1 → e'.wrong j = false)) := hid ⟨fun _ => by rw [HWI.out]; rfl, by omega⟩
     clear hno
     go_wp2_with (go_at_call 141; with_reducible refine M1.out.mono ?_; rintro e w' ⟨rfl, rfl⟩)
     go_roundw
     case rel => exact ⟨1, by omega, by first | rfl | trivial, by first | rfl | trivial, hn2⟩
     case measure => simp [intOf]
   ·have hb : (si == 2) = false := by simpa using h2
    have hn2 : Hid ((1 ≤ 1 → e'.wrong i = false) ∧ (2 ≤ 1 → e'.wrong j = false)) := hid ⟨fun _ => by rw [HWI.out]; simp [h2], by omega⟩
    clear hno h2
    go_wp2_with fail
    go_roundw
    case rel => exact ⟨1, by omega, by first | rfl | trivial, by first | rfl | trivial, hn2⟩
    case measure => simp [intOf]
  ·have hw1 := hno.out.1 (Nat.le_refl _)
   by_cases h2 : sj = 2
   ·subst h2
    cases mj with
    | true =>
     have hf : e'.bad i j = true := by rw [HB.out, HWJ.out]; simp
     have HFN := hid hf
     clear hf hno hw1
     go_wp2_with (go_at_call 141; with_reducible refine M2.out.mono ?_; rintro e w' ⟨rfl, rfl⟩)
     go_ret
     exact ⟨k', HKK.out, by rw [HE.out, HFN.out]; rfl, by rw [HE.out]; exact HX.out.tail⟩
    | false =>
     have hn2 : Hid ((1 ≤ 2 → e'.wrong i = false) ∧ (2 ≤ 2 → e'.wrong j = false)) := hid ⟨fun _ => hw1, fun _ => by rw [HWJ.out]; rfl⟩
     clear hno hw1
     go_wp2_with (go_at_call 141; with_reducible refine M2.out.mono ?_; rintro e w' ⟨rfl, rfl⟩)
     go_roundw
     case rel => exact ⟨2, by omega, by first | rfl | trivial, by first | rfl | trivial, hn2⟩
     case measure => simp [intOf]
   ·have hb : (sj == 2) = false := by simpa using h2
    have hn2 : Hid ((1 ≤ 2 → e'.wrong i = false) ∧ (2 ≤ 2 → e'.wrong j = false)) := hid ⟨fun _ => hw1, fun _ => by rw [HWJ.out]; simp [h2]⟩
    clear hno hw1 h2
    go_wp2_with fail
    go_roundw
    case rel => exact ⟨2, by omega, by first | rfl | trivial, by first | rfl | trivial, hn2⟩
    case measure => simp [intOf]
  ·have hf : e'.bad i j = false := by rw [HB.out, hno.out.1 (by omega), hno.out.2 (by omega)]; rfl
   have HFN := hid hf
   clear hf hno
   go_wp2_with fail
   go_ret
   exact ⟨k', HKK.out, by rw [HE.out, HFN.out]; rfl, by rw [HE.out]; exact HX.out.tail⟩
end Go.Proofs.YtdlkjppppdminaaGreatDoor
/- The program's engine: of, State, Txs, Last, Many, Waits. -/
namespace Go.Proofs.YtdlkjppppdminaaGreatDoor
open Go Go.RowKit Go.Sep
theorem errV_0 : errV 0 = .nilIface := rfl
theorem errV_ne {x : Int} (h : x ≠ 0) : errV x = .iface 54 (.int .i64 x) := if_neg h
theorem of_miss (w0 w : World) (b : Nat) (bs : List Nat) (k : EngV) (e : Eng) (n : Int) (op : Bool) (L : List HProp) (hs : S w0 w (engO b bs k e :: L)) (hn : n < 1 ∨ (e.txs.length : Int) < n) :
  Calls Tryz.prog 102 #[.pointer (some ⟨b, 0, none⟩), .int .i64 n, .bool op] w fun r w' => r = .returned (.tuple #[.pointer none, .iface 54 (.int .i64 7)]) ∧ w = w' := by
 have hc := hs.eng_c.2
 have c14 := hc.txs
 obtain ⟨a, cap, hv, hle, hcap, _⟩ := hc.row
 rw [hv] at c14
 unfold maxLen at hcap
 clear hs hc hv
 by_cases h1 : n < 1
 ·clear hn
  go_enter Tryz.func102, Tryz.ntmps102
  go_wp2
  go_ret2
  exact ⟨rfl, rfl⟩
 ·have h2 : (e.txs.length : Int) < n := by omega
  clear hn
  go_enter Tryz.func102, Tryz.ntmps102
  go_wp2
  go_ret2
  exact ⟨rfl, rfl⟩
theorem of_shut (w0 w : World) (b : Nat) (bs : List Nat) (k : EngV) (e : Eng) (i : Nat) (L : List HProp) (hs : S w0 w (engO b bs k e :: L)) (hi : i < e.txs.length) (hst : (e.tx i).state ≠ 0) :
  Calls Tryz.prog 102 #[.pointer (some ⟨b, 0, none⟩), .int .i64 ((i : Int) + 1), .bool true] w fun r w' => r = .returned (.tuple #[.pointer none, .iface 54 (.int .i64 6)]) ∧ w = w' := by
 have hc := hs.eng_c.2
 have c14 := hc.txs
 obtain ⟨a, cap, hv, hle, hcap, hrow⟩ := hc.row
 obtain ⟨g, o, rfl, ci⟩ := hrow i hi
 rw [hv] at c14
 unfold maxLen at hcap
 have c1 := (hs.eng_txc hi).2.state
 have hb : ((e.tx i).state != 0) = true := by simpa using hst
 unfold ptr at ci
 clear hs hc hv hrow hst
 go_enter Tryz.func102, Tryz.ntmps102
 go_wp2
 go_ret2
 exact ⟨rfl, rfl⟩
theorem of_ok (w0 w : World) (b : Nat) (bs : List Nat) (k : EngV) (e : Eng) (i : Nat) (op : Bool) (L : List HProp) (hs : S w0 w (engO b bs k e :: L)) (hi : i < e.txs.length) (hst : op = true → (e.tx i).state = 0) :
  Calls Tryz.prog 102 #[.pointer (some ⟨b, 0, none⟩), .int .i64 ((i : Int) + 1), .bool op] w fun r w' => r = .returned (.tuple #[ptr bs i, .nilIface]) ∧ w = w' := by
 have hc := hs.eng_c.2
 have c14 := hc.txs
 obtain ⟨a, cap, hv, hle, hcap, hrow⟩ := hc.row
 obtain ⟨g, o, rfl, ci⟩ := hrow i hi
 rw [hv] at c14
 unfold maxLen at hcap
 have c1 := (hs.eng_txc hi).2.state
 unfold ptr at ci ⊢
 clear hs hc hv hrow
 cases op with
 | true =>
  rw [hst rfl] at c1
  clear hst
  go_enter Tryz.func102, Tryz.ntmps102
  go_wp2
  go_ret2
  exact ⟨rfl, rfl⟩
 | false =>
  clear hst
  go_enter Tryz.func102, Tryz.ntmps102
  go_wp2
  go_ret2
  exact ⟨rfl, rfl⟩
theorem Eng.err_cases (e : Eng) (n : Int) (op : Bool) : (e.err n op = 7 ∧ (n < 1 ∨ (e.txs.length : Int) < n)) ∨ ∃ i : Nat, n = (i : Int) + 1 ∧ i < e.txs.length ∧ ((e.err n op = 6 ∧ op = true ∧ (e.tx i).state ≠ 0) ∨ (e.err n op = 0 ∧ (op = true → (e.tx i).state = 0))) := by
 by_cases h : n < 1 ∨ (e.txs.length : Int) < n
 ·exact .inl ⟨if_pos h, h⟩
 ·right
  obtain ⟨i, rfl⟩ : ∃ i : Nat, n = (i : Int) + 1 := ⟨(n - 1).toNat, by omega⟩
  have hi : ((i : Int) + 1).toNat - 1 = i := by omega
  refine ⟨i, rfl, by omega, ?_⟩
  unfold Eng.err
  rw [if_neg h, hi]
  by_cases h2 : op = true ∧ (e.tx i).state ≠ 0
  ·rw [if_pos h2]; exact .inl ⟨rfl, h2⟩
  ·rw [if_neg h2]; exact .inr ⟨rfl, fun ho => Decidable.byContradiction fun hx => h2 ⟨ho, hx⟩⟩
theorem state_any (w0 w : World) (b : Nat) (bs : List Nat) (k : EngV) (e : Eng) (n : Int) (L : List HProp) (hs : S w0 w (engO b bs k e :: L)) :
  Calls Tryz.prog 77 #[.pointer (some ⟨b, 0, none⟩), .int .i64 n] w fun r w' => r = .returned (.tuple #[.int .i64 (e.state n).1, .int .i64 (e.state n).2.1, errV (e.state n).2.2]) ∧ S w0 w' (engO b bs k e :: L) := by
 have HS := hid hs
 rcases e.err_cases n false with ⟨h1, h2⟩ | ⟨i, rfl, hi, ⟨h1, h2, h3⟩ | ⟨h1, h2⟩⟩
 ·have hst : e.state n = (0, 0, 7) := by unfold Eng.state; rw [if_pos (by rw [h1]; decide), h1]
  have HST := hid hst
  have hc := of_miss w0 w b bs k e n false L hs h2
  have HC := hid hc
  clear hs hst hc h1 h2
  go_enter Tryz.func77, Tryz.ntmps77
  go_wp2_with fail
  with_reducible refine HC.out.mono ?_
  rintro r w' ⟨rfl, rfl⟩
  go_wp2_with fail
  go_ret3
  exact ⟨by rw [HST.out]; rfl, HS.out⟩
 ·cases h2
 ·have hi2 : ((i : Int) + 1).toNat - 1 = i := by omega
  have hst : e.state ((i : Int) + 1) = ((e.tx i).state, (e.tx i).why, 0) := by unfold Eng.state; rw [if_neg (by rw [h1]; decide), hi2]
  have HST := hid hst
  have hc := of_ok w0 w b bs k e i false L hs hi h2
  unfold ptr at hc
  have hx := (hs.eng_txc hi).2
  have c1 := hx.state
  have c2 := hx.why
  have HC := hid hc
  clear hs hst hc h1 h2 hx hi2
  go_enter Tryz.func77, Tryz.ntmps77
  go_wp2_with fail
  with_reducible refine HC.out.mono ?_
  rintro r w' ⟨rfl, rfl⟩
  go_wp2_with fail
  go_quiet (fail)
  go_wp2_with fail
  go_ret3
  exact ⟨by rw [HST.out]; rfl, HS.out.drewN nq⟩
theorem txs_any (w0 w : World) (b : Nat) (bs : List Nat) (k : EngV) (e : Eng) (L : List HProp) (hs : S w0 w (engO b bs k e :: L)) :
  Calls Tryz.prog 70 #[.pointer (some ⟨b, 0, none⟩)] w fun r w' => r = .returned (.int .i64 e.txs.length) ∧ w = w' := by
 have hc := hs.eng_c.2
 have c14 := hc.txs
 obtain ⟨a, cap, hv, hle, hcap, _⟩ := hc.row
 rw [hv] at c14
 unfold maxLen at hcap
 clear hs hc hv
 go_enter Tryz.func70, Tryz.ntmps70
 go_wp2
 go_ret
 exact ⟨rfl, rfl⟩
theorem elast_any (w0 w : World) (b : Nat) (e : Eng) (L : List HProp) (hs : S w0 w (storeP 99 b 0 e.V e.last :: L)) :
  Calls Tryz.prog 71 #[.pointer (some ⟨b, 0, none⟩)] w fun r w' => r = .returned (.int .i64 e.last) ∧ w = w' := by
 have hc := last_any b 0 e.last w hs.store_last.1
 clear hs
 go_enter Tryz.func71, Tryz.ntmps71
 go_wp2_with (go_at_call 104; with_reducible refine hc.mono ?_; rintro r w' ⟨rfl, rfl⟩)
 go_ret
 exact ⟨rfl, rfl⟩
theorem ewaits_any (w0 w : World) (b : Nat) (e : Eng) (n : Int) (L : List HProp) (hs : S w0 w (tabP 3 b 11 e.t :: L)) :
  Calls Tryz.prog 79 #[.pointer (some ⟨b, 0, none⟩), .int .i64 n] w fun r w' => r = .returned (.int .i64 (e.waits n)) ∧ w = w' := by
 have hw := twaits_any w0 w 3 b 11 e.t n L hs
 have hh := fun key => tholds_any w0 w 3 b 11 e.t key L hs
 cases hm : mget e.t.wait n with
 | none =>
  have hf : e.waits n = 0 := by unfold Eng.waits; rw [hm]
  rw [hm] at hw
  have HF := hid hf; have HW := hid hw
  clear hs hw hh hm hf
  go_enter Tryz.func79, Tryz.ntmps79
  go_wp2_with fail
  with_reducible refine HW.out.mono ?_
  rintro r w' ⟨rfl, rfl⟩
  go_wp2_with fail
  go_ret
  exact ⟨by rw [HF.out]; rfl, rfl⟩
 | some kk =>
  rw [hm] at hw
  by_cases h0 : 0 ≤ kk
  ·have hf : e.waits n = (mget e.t.hold kk).getD 0 := by unfold Eng.waits; rw [hm]; exact if_pos h0
   have HF := hid hf; have HW := hid hw; have HH := hid (hh kk)
   clear hs hw hh hm hf
   go_enter Tryz.func79, Tryz.ntmps79
   go_wp2_with fail
   with_reducible refine HW.out.mono ?_
   rintro r w' ⟨rfl, rfl⟩
   go_wp2_with fail
   with_reducible refine HH.out.mono ?_
   rintro r w' ⟨rfl, rfl⟩
   go_wp2_with fail
   go_ret
   exact ⟨by rw [HF.out]; rfl, rfl⟩
  ·have hf : e.waits n = 0 := by unfold Eng.waits; rw [hm]; exact if_neg h0
   have HF := hid hf; have HW := hid hw
   clear hs hw hh hm hf
   go_enter Tryz.func79, Tryz.ntmps79
   go_wp2_with fail
   with_reducible refine HW.out.mono ?_
   rintro r w' ⟨rfl, rfl⟩
   go_wp2_with fail
   go_ret
   exact ⟨by rw [HF.out]; rfl, rfl⟩
end Go.Proofs.YtdlkjppppdminaaGreatDoor
namespace Go.Proofs.YtdlkjppppdminaaGreatDoor
open Go Go.RowKit Go.Sep
theorem saw1_any (w0 w : World) (k1 f1 key : Int) (bw : Nat) (L : List HProp) (hs : S w0 w L) (hc : w.cell? ⟨bw, 0, none⟩ = some (.int .i64 key)) :
  Calls Tryz.prog 155 #[.agg #[.int .i64 k1, .int .i64 f1], .pointer (some ⟨bw, 0, none⟩)] w fun r w' => r = .returned (.bool (k1 == key)) ∧ S w0 w' L := by
 have hlt := World.block_lt_of_cell? w ⟨bw, 0, none⟩ hc
 have h1 : (w.alloc (.cells #[.int .i64 k1, .int .i64 f1] 181)).cell? ⟨bw, 0, none⟩ = some (.int .i64 key) := by rw [World.cell?_alloc_lt _ _ _ hlt]; exact hc
 have HS := hid (hs.alloc #[.int .i64 k1, .int .i64 f1] 181).tail
 clear hs hc hlt
 go_enter Tryz.func155, Tryz.ntmps155
 go_wp2
 go_ret
 exact ⟨rfl, HS.out⟩
abbrev sawF (bw : Nat) : Value := .func (.func 155) #[] #[.pointer (some ⟨bw, 0, none⟩)]
def RxPost (w0 : World) (L : List HProp) (key : Int) (l : List (Int × Int)) (e : Ending) (w' : World) : Prop := ∃ r : Int, e = .returned (.int .i64 r) ∧ -1 ≤ r ∧ (decide (0 ≤ r) = l.any fun p => decide (p.1 = key)) ∧ S w0 w' L
set_option maxRecDepth 20000 in
set_option maxHeartbeats 1000000 in
theorem indexR_any (w0 w : World) (b : Nat) (bs : List Nat) (k : EngV) (e : Eng) (j : Nat) (bw : Nat) (key val : Int) (L : List HProp) (hs : S w0 w (blk bw 91 [.int .i64 key, .int .i64 val] :: engO b bs k e :: L)) (hj : j < e.txs.length) :
  Calls Tryz.prog 171 #[(k.v j).rv, sawF bw] w (RxPost w0 (blk bw 91 [.int .i64 key, .int .i64 val] :: engO b bs k e :: L) key (e.tx j).reads) := by
 obtain ⟨a, cap, hrv, hle, hcap, _⟩ := (hs.swap.eng_txc hj).2.rs
 have hrd : ∀ W, S w0 W (blk bw 91 [.int .i64 key, .int .i64 val] :: engO b bs k e :: L) → ∀ i p, (e.tx j).reads[i]? = some p → ∃ g o, a = some ⟨g, o, none⟩ ∧ W.cell? ⟨g, o + i * 2, none⟩ = some (.int .i64 p.1) ∧ W.cell? ⟨g, o + i * 2 + 1, none⟩ = some (.int .i64 p.2) := by
  intro W hW i p hp
  obtain ⟨a', cap', hrv', _, _, h⟩ := (hW.swap.eng_txc hj).2.rs
  rw [hrv] at hrv'
  simp only [Value.slice.injEq] at hrv'
  obtain ⟨rfl, _, _⟩ := hrv'
  exact h i p hp
 rw [hrv]
 generalize (e.tx j).reads = l at *
 unfold maxLen at hcap
 have HS := hid hs; have HRD := hid hrd
 clear hs hrd hrv
 go_enter Tryz.func171, Tryz.ntmps171
 go_wp2_with fail
 go_loopw [8] (fun x wr => ∃ i : Nat, i ≤ l.length ∧ x = .int .i64 i ∧ Hid (∀ p ∈ l.take i, p.1 ≠ key) ∧ S w0 wr (blk bw 91 [.int .i64 key, .int .i64 val] :: engO b bs k e :: L)) (fun x _ => l.length - (intOf x).toNat)
 case atStart => exact ⟨0, Nat.zero_le _, rfl, hid (by simp), HS.out⟩
 case round =>
  rename World => wr
  obtain ⟨i, hi, rfl, hno, hsr⟩ := hrel
  clear HS
  by_cases hlt : i < l.length
  ·have hp : l[i]? = some l[i] := by simp [hlt]
   generalize l[i] = p at hp
   obtain ⟨g, o, rfl, c1, c2⟩ := HRD.out _ hsr _ _ hp
   have hc := saw1_any w0 wr p.1 p.2 key bw _ hsr (hsr.blk_cell 0 rfl)
   have HP := hid hp; have HC := hid hc; have HSR := hid hsr
   clear hp hc hsr
   by_cases hx : p.1 = key
   ·have hbe : (p.1 == key) = true := by simpa using hx
    have HF := hid (show (l.any fun p => decide (p.1 = key)) = true by
     rw [List.any_eq_true]; exact ⟨p, List.mem_of_getElem? HP.out, by simpa using hx⟩)
    clear hx hno
    go_wp2_with fail
    with_reducible refine HC.out.mono ?_
    rintro r w' ⟨rfl, hs'⟩
    have H2 := hid hs'
    clear hs'
    go_wp2_with fail
    go_ret
    exact ⟨i, rfl, by omega, by rw [HF.out]; simp, H2.out⟩
   ·have hn : Hid (∀ q ∈ l.take (i + 1), q.1 ≠ key) := hid (by
     rw [take_succ_get HP.out]
     intro q hq
     rcases List.mem_append.1 hq with hq | hq
     ·exact hno.out q hq
     ·simp only [List.mem_singleton] at hq; subst hq; exact hx)
    have hbe : (p.1 == key) = false := by simpa using hx
    clear hx hno
    go_wp2_with fail
    with_reducible refine HC.out.mono ?_
    rintro r w' ⟨rfl, hs'⟩
    have H2 := hid hs'
    clear hs'
    go_wp2_with fail
    go_roundw
    case rel => exact ⟨i + 1, by omega, by go_num, hn, H2.out⟩
    case measure => simp [intOf]; omega
  ·have HF := hid (show (l.any fun p => decide (p.1 = key)) = false by
    rw [List.any_eq_false]
    intro p hp
    have := hno.out p (by rw [List.take_of_length_le (by omega)]; exact hp)
    simp [this])
   have H2 := hid hsr
   clear hno hsr
   go_wp2_with fail
   go_ret
   exact ⟨-1, rfl, by omega, by rw [HF.out]; simp, H2.out⟩
theorem containsR_any (w0 w : World) (b : Nat) (bs : List Nat) (k : EngV) (e : Eng) (j : Nat) (bw : Nat) (key val : Int) (L : List HProp) (hs : S w0 w (blk bw 91 [.int .i64 key, .int .i64 val] :: engO b bs k e :: L)) (hj : j < e.txs.length) :
  Calls Tryz.prog 154 #[(k.v j).rv, sawF bw] w fun r w' => r = .returned (.bool ((e.tx j).saw key)) ∧ S w0 w' (blk bw 91 [.int .i64 key, .int .i64 val] :: engO b bs k e :: L) := by
 have HC := hid (indexR_any w0 w b bs k e j bw key val L hs hj)
 clear hs
 go_enter Tryz.func154, Tryz.ntmps154
 go_wp2_with fail
 with_reducible refine HC.out.mono ?_
 rintro r w' ⟨x, rfl, hr, hd, hs'⟩
 have HD := hid hd; have H2 := hid hs'
 clear hd hs'
 go_wp2_with fail
 go_ret
 exact ⟨by unfold Tx.saw; rw [← HD.out]; rfl, H2.out⟩
end Go.Proofs.YtdlkjppppdminaaGreatDoor
