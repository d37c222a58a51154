/- The reference's engine: the small readers. -/
import Derived.Test.YtmfngjclccehaaaGreatDoorZ0
import Derived.Sort.OwnSortedInts
import Derived.Shelf.Strconv.Itoa0
import Derived.Shelf.Sort.Plain
import Derived.Shelf.Slices.In.SortNone
import Derived.Shelf.Slices.In.SortNone2
import Derived.Test.YtmfngjclccehaaaGreatDoorProg
import Derived.Test.YtmfngjclccehaaaGreatDoorZ2
import Derived.Test.YtmfngjclccehaaaGreatDoorZ3
import Derived.WalkKit
import Derived.Deep.DeepCutAuto
import Derived.Deep.CutBlock
import Derived.Test.YtmfngjclccehaaaGreatDoorZ1
import Derived.Deep.RegionHeld3
import Derived.Deep.LoopGhost
import Derived.LoopN
import Derived.BigQuiet
/- An owned slice, sorted by the library. No program in sight. -/
namespace Go.Sep
open Go Go.RowKit Go.Sort Go.Proofs
variable {w w0 : World} {L : List HProp} {e : TypeId} {g o n cap : Nat}
theorem putCells_mid {α : Type} [Inhabited α] (enc : α → Value) (pre post : List Value) (l m : List α) (hl : m.length = l.length) :
  (putCells enc pre.length m.toArray (pre ++ (l.map enc ++ post)).toArray).toList = pre ++ (m.map enc ++ post) := by
 apply List.ext_getElem?
 intro j
 rw [Array.getElem?_toList]
 simp only [putCells, Array.getElem?_mapIdx, List.getElem?_toArray, List.size_toArray]
 by_cases h1 : j < pre.length
 ·rw [List.getElem?_append_left h1, List.getElem?_append_left h1]
  rw [List.getElem?_eq_getElem h1]
  simp; omega
 ·obtain ⟨i, rfl⟩ : ∃ i, j = pre.length + i := ⟨j - pre.length, by omega⟩
  have e1 : ∀ x : List Value, (pre ++ x)[pre.length + i]? = x[i]? := by intro x; rw [List.getElem?_append_right (by omega)]; congr 1; omega
  rw [e1, e1]
  by_cases h2 : i < l.length
  ·have h3 : i < m.length := by omega
   rw [List.getElem?_append_left (l₁ := l.map enc) (by simpa using h2), List.getElem?_append_left (l₁ := m.map enc) (by simpa using h3)]
   simp [h2, h3]
  ·have e2 : ∀ x : List α, x.length = l.length → (x.map enc ++ post)[i]? = post[i - l.length]? := by
    intro x hx; rw [List.getElem?_append_right (by simp; omega)]; simp [hx]
   rw [e2 l rfl, e2 m hl]
   cases post[i - l.length]? with
   | none => rfl
   | some u => simp; intro hx; omega
theorem heap_putRow {α : Type} [Inhabited α] (enc : α → Value) {g off n : Nat} {os : Array Obj} {cur : Array Value} {e : TypeId} {fr : Nat × Nat} (d : Array α) (hb : w.heap[g]? = some (.cells cur e fr)) :
  (grow (putRow enc (Sort.ahead w n) g off d) os).heap[g]? = some (.cells (putCells enc off d cur) e fr) := by
 have hg : g < w.heap.size := (Array.getElem?_eq_some_iff.1 hb).1
 rw [heap_grow_old _ _ (by simpa using hg)]
 simp [putRow, mapBlock, Sort.ahead, Array.getElem?_modify, hb, onCells]
theorem grownBy_putRow {α : Type} [Inhabited α] (enc : α → Value) {g off n : Nat} {os : Array Obj} (d : Array α) : w.grownBy (grow (putRow enc (Sort.ahead w n) g off d) os) (some g) := by
 refine ⟨rfl, rfl, rfl, by simp, fun k hk hne => ?_⟩
 rw [heap_grow_old _ _ (by simpa using hk)]
 have : g ≠ k := fun e => hne (by rw [e])
 simp [putRow, mapBlock, Sort.ahead, Array.getElem?_modify, this]
theorem S.sl_sort {l : List Int} (h : S w0 w (sl e 1 (.slice (some ⟨g, o, none⟩) l.length cap) l.length (icells l) :: L)) : Holds (Value.int .i64) w g o l.toArray ∧ g < w.heap.size ∧
  ∀ (m : List Int) (k : Nat) (os : Array Obj), m.length = l.length → S w0 (grow (putRow (Value.int .i64) (Sort.ahead w k) g o m.toArray) os) (sl e 1 (.slice (some ⟨g, o, none⟩) l.length cap) l.length (icells m) :: L) := by
 rcases h.sl_elim with ⟨hv, _⟩ | ⟨g', cap', pre, sp, post, hp, hb⟩
 ·simp at hv
 have hv := hp.val
 simp at hv
 obtain ⟨⟨rfl, rfl⟩, rfl⟩ := hv
 refine ⟨fun j hj => ?_, hb.blk_lt, fun m k os hm => ?_⟩
 ·have hj' : j < l.length := by simpa using hj
  refine ⟨?_, hb.blk_free _⟩
  refine hb.blk_cell (pre.length + j) ?_
  rw [List.getElem?_append_right (by omega), Nat.add_sub_cancel_left, List.getElem?_append_left (by rw [icells_length]; exact hj')]
  simp [icells, hj']
 ·have hh := hb.blk_heap
  have h1 := heap_putRow (w := w) (Value.int .i64) (off := pre.length) (n := k) (os := os) m.toArray hh
  have e1 : putCells (Value.int .i64) pre.length m.toArray (pre ++ (icells l ++ (sp ++ post))).toArray = (pre ++ (icells m ++ (sp ++ post))).toArray := by
   apply Array.toList_inj.1
   have := putCells_mid (Value.int .i64) pre (sp ++ post) l m hm
   simpa [icells] using this
  rw [e1] at h1
  have h2 := hb.blk_turn (grownBy_putRow (Value.int .i64) (off := pre.length) (n := k) (os := os) m.toArray) h1
  exact .sl_intro ⟨rfl, by rw [icells_length, hm]; simp, by have := hp.room; rw [icells_length] at this ⊢; omega, hp.le, hp.max⟩ h2
end Go.Sep
/- The library's contracts at this translation: laid by the kit's tool. -/
namespace Go.Proofs
open Go.Shelf
def Tryz.lays189_ren : Go.Shelf.Ren := ⟨fun | 189 => 93 | 125 => 106 | 257 => 105 | 128 => 120 | 129 => 121 | 294 => 111 | 295 => 112 | 296 => 113 | 297 => 114 | 298 => 115 | 299 => 116 | 216 => 117 | 300 => 118 | 301 => 119 | 328 => 122 | 329 => 123 | 330 => 124 | 331 => 125 | 332 => 126 | 215 => 127 | 343 => 128 | n => n, fun | 28 => 48 | 3 => 3 | 46 => 37 | 0 => 0 | 51 => 207 | 53 => 209 | 4 => 4 | 183 => 200 | 182 => 199 | 131 => 124 | 5 => 5 | 9 => 9 | 218 => 210 | 222 => 214 | 228 => 216 | 229 => 217 | n => n, fun | n => n⟩
theorem Tryz.lays189 : Go.Proofs.Lays.n189 Tryz.prog Tryz.lays189_ren := {
 mixed := by kernel_rfl
 f125 := Tryz.func106.trans (congrArg some (by kernel_rfl))
 f128 := Tryz.func120.trans (congrArg some (by kernel_rfl))
 f129 := Tryz.func121.trans (congrArg some (by kernel_rfl))
 f189 := Tryz.func93.trans (congrArg some (by kernel_rfl))
 f215 := Tryz.func127.trans (congrArg some (by kernel_rfl))
 f216 := Tryz.func117.trans (congrArg some (by kernel_rfl))
 f257 := Tryz.func105.trans (congrArg some (by kernel_rfl))
 f294 := Tryz.func111.trans (congrArg some (by kernel_rfl))
 f295 := Tryz.func112.trans (congrArg some (by kernel_rfl))
 f296 := Tryz.func113.trans (congrArg some (by kernel_rfl))
 f297 := Tryz.func114.trans (congrArg some (by kernel_rfl))
 f298 := Tryz.func115.trans (congrArg some (by kernel_rfl))
 f299 := Tryz.func116.trans (congrArg some (by kernel_rfl))
 f300 := Tryz.func118.trans (congrArg some (by kernel_rfl))
 f301 := Tryz.func119.trans (congrArg some (by kernel_rfl))
 f328 := Tryz.func122.trans (congrArg some (by kernel_rfl))
 f329 := Tryz.func123.trans (congrArg some (by kernel_rfl))
 f330 := Tryz.func124.trans (congrArg some (by kernel_rfl))
 f331 := Tryz.func125.trans (congrArg some (by kernel_rfl))
 f332 := Tryz.func126.trans (congrArg some (by kernel_rfl))
 f343 := Tryz.func128.trans (congrArg some (by kernel_rfl))
 t0 := Tryz.underlying0
 a0 := Tryz.isAgg0
 z0 := Tryz.sizeOf0
 v0 := Tryz.zeroValue0
 t3 := Tryz.underlying3
 a3 := Tryz.isAgg3
 z3 := Tryz.sizeOf3
 v3 := Tryz.zeroValue3
 t4 := Tryz.underlying4
 a4 := Tryz.isAgg4
 z4 := Tryz.sizeOf4
 v4 := Tryz.zeroValue4
 t5 := Tryz.underlying5
 a5 := Tryz.isAgg5
 z5 := Tryz.sizeOf5
 v5 := Tryz.zeroValue5
 t9 := Tryz.underlying9
 a9 := Tryz.isAgg9
 z9 := Tryz.sizeOf9
 v9 := Tryz.zeroValue9
 t28 := Tryz.underlying48
 a28 := Tryz.isAgg48
 z28 := Tryz.sizeOf48
 v28 := Tryz.zeroValue48
 t46 := Tryz.underlying37
 a46 := Tryz.isAgg37
 z46 := Tryz.sizeOf37
 v46 := Tryz.zeroValue37
 t51 := Tryz.underlying207
 a51 := Tryz.isAgg207
 z51 := Tryz.sizeOf207
 v51 := Tryz.zeroValue207
 t53 := Tryz.underlying209
 a53 := Tryz.isAgg209
 z53 := Tryz.sizeOf209
 v53 := Tryz.zeroValue209
 t131 := Tryz.underlying124
 a131 := Tryz.isAgg124
 z131 := Tryz.sizeOf124
 v131 := Tryz.zeroValue124
 t182 := Tryz.underlying199
 a182 := Tryz.isAgg199
 z182 := Tryz.sizeOf199
 v182 := Tryz.zeroValue199
 t183 := Tryz.underlying200
 a183 := Tryz.isAgg200
 z183 := Tryz.sizeOf200
 v183 := Tryz.zeroValue200
 t218 := Tryz.underlying210
 a218 := Tryz.isAgg210
 z218 := Tryz.sizeOf210
 v218 := Tryz.zeroValue210
 t222 := Tryz.underlying214
 a222 := Tryz.isAgg214
 z222 := Tryz.sizeOf214
 v222 := Tryz.zeroValue214
 t228 := Tryz.underlying216
 a228 := Tryz.isAgg216
 z228 := Tryz.sizeOf216
 v228 := Tryz.zeroValue216
 t229 := Tryz.underlying217
 a229 := Tryz.isAgg217
 z229 := Tryz.sizeOf217
 v229 := Tryz.zeroValue217 }
open Go.Sort Go.RowKit in
theorem Tryz.slices_Sort_int (blk off cap : Nat) (zs : List Int) (w : World) (hH : Holds (Value.int .i64) w blk off zs.toArray) (hblk : blk < w.heap.size) (hsz : zs.length < 4611686018427387904) :
  Calls Tryz.prog 93 #[.slice (some ⟨blk, off, none⟩) zs.length cap] w fun e w' =>
   e = .returned (.tuple #[]) ∧ ∃ n os, w' = grow (putRow (Value.int .i64) (Sort.ahead w n) blk off (zs.mergeSort fun x y => decide (x ≤ y)).toArray) os := Any.slices_Sort_int Tryz.lays189 blk off cap zs w hH hblk hsz
def Tryz.lays191_ren : Go.Shelf.Ren := ⟨fun | 191 => 79 | 189 => 93 | 125 => 106 | 257 => 105 | 128 => 120 | 129 => 121 | 294 => 111 | 295 => 112 | 296 => 113 | 297 => 114 | 298 => 115 | 299 => 116 | 216 => 117 | 300 => 118 | 301 => 119 | 328 => 122 | 329 => 123 | 330 => 124 | 331 => 125 | 332 => 126 | 215 => 127 | 343 => 128 | n => n, fun | 28 => 48 | 0 => 0 | 3 => 3 | 46 => 37 | 51 => 207 | 53 => 209 | 4 => 4 | 183 => 200 | 182 => 199 | 131 => 124 | 5 => 5 | 9 => 9 | 218 => 210 | 222 => 214 | 228 => 216 | 229 => 217 | n => n, fun | n => n⟩
theorem Tryz.lays191 : Go.Proofs.Lays.n191 Tryz.prog Tryz.lays191_ren := {
 mixed := by kernel_rfl
 f125 := Tryz.func106.trans (congrArg some (by kernel_rfl))
 f128 := Tryz.func120.trans (congrArg some (by kernel_rfl))
 f129 := Tryz.func121.trans (congrArg some (by kernel_rfl))
 f189 := Tryz.func93.trans (congrArg some (by kernel_rfl))
 f191 := Tryz.func79.trans (congrArg some (by kernel_rfl))
 f215 := Tryz.func127.trans (congrArg some (by kernel_rfl))
 f216 := Tryz.func117.trans (congrArg some (by kernel_rfl))
 f257 := Tryz.func105.trans (congrArg some (by kernel_rfl))
 f294 := Tryz.func111.trans (congrArg some (by kernel_rfl))
 f295 := Tryz.func112.trans (congrArg some (by kernel_rfl))
 f296 := Tryz.func113.trans (congrArg some (by kernel_rfl))
 f297 := Tryz.func114.trans (congrArg some (by kernel_rfl))
 f298 := Tryz.func115.trans (congrArg some (by kernel_rfl))
 f299 := Tryz.func116.trans (congrArg some (by kernel_rfl))
 f300 := Tryz.func118.trans (congrArg some (by kernel_rfl))
 f301 := Tryz.func119.trans (congrArg some (by kernel_rfl))
 f328 := Tryz.func122.trans (congrArg some (by kernel_rfl))
 f329 := Tryz.func123.trans (congrArg some (by kernel_rfl))
 f330 := Tryz.func124.trans (congrArg some (by kernel_rfl))
 f331 := Tryz.func125.trans (congrArg some (by kernel_rfl))
 f332 := Tryz.func126.trans (congrArg some (by kernel_rfl))
 f343 := Tryz.func128.trans (congrArg some (by kernel_rfl))
 t0 := Tryz.underlying0
 a0 := Tryz.isAgg0
 z0 := Tryz.sizeOf0
 v0 := Tryz.zeroValue0
 t3 := Tryz.underlying3
 a3 := Tryz.isAgg3
 z3 := Tryz.sizeOf3
 v3 := Tryz.zeroValue3
 t4 := Tryz.underlying4
 a4 := Tryz.isAgg4
 z4 := Tryz.sizeOf4
 v4 := Tryz.zeroValue4
 t5 := Tryz.underlying5
 a5 := Tryz.isAgg5
 z5 := Tryz.sizeOf5
 v5 := Tryz.zeroValue5
 t9 := Tryz.underlying9
 a9 := Tryz.isAgg9
 z9 := Tryz.sizeOf9
 v9 := Tryz.zeroValue9
 t28 := Tryz.underlying48
 a28 := Tryz.isAgg48
 z28 := Tryz.sizeOf48
 v28 := Tryz.zeroValue48
 t46 := Tryz.underlying37
 a46 := Tryz.isAgg37
 z46 := Tryz.sizeOf37
 v46 := Tryz.zeroValue37
 t51 := Tryz.underlying207
 a51 := Tryz.isAgg207
 z51 := Tryz.sizeOf207
 v51 := Tryz.zeroValue207
 t53 := Tryz.underlying209
 a53 := Tryz.isAgg209
 z53 := Tryz.sizeOf209
 v53 := Tryz.zeroValue209
 t131 := Tryz.underlying124
 a131 := Tryz.isAgg124
 z131 := Tryz.sizeOf124
 v131 := Tryz.zeroValue124
 t182 := Tryz.underlying199
 a182 := Tryz.isAgg199
 z182 := Tryz.sizeOf199
 v182 := Tryz.zeroValue199
 t183 := Tryz.underlying200
 a183 := Tryz.isAgg200
 z183 := Tryz.sizeOf200
 v183 := Tryz.zeroValue200
 t218 := Tryz.underlying210
 a218 := Tryz.isAgg210
 z218 := Tryz.sizeOf210
 v218 := Tryz.zeroValue210
 t222 := Tryz.underlying214
 a222 := Tryz.isAgg214
 z222 := Tryz.sizeOf214
 v222 := Tryz.zeroValue214
 t228 := Tryz.underlying216
 a228 := Tryz.isAgg216
 z228 := Tryz.sizeOf216
 v228 := Tryz.zeroValue216
 t229 := Tryz.underlying217
 a229 := Tryz.isAgg217
 z229 := Tryz.sizeOf217
 v229 := Tryz.zeroValue217 }
open Go.Sort Go.RowKit in
theorem Tryz.sort_Ints (blk off cap : Nat) (zs : List Int) (w : World) (hH : Holds (Value.int .i64) w blk off zs.toArray) (hblk : blk < w.heap.size) (hsz : zs.length < 4611686018427387904) :
  Calls Tryz.prog 79 #[.slice (some ⟨blk, off, none⟩) zs.length cap] w fun e w' =>
   e = .returned (.tuple #[]) ∧ ∃ n os, w' = grow (putRow (Value.int .i64) (Sort.ahead w n) blk off (zs.mergeSort fun x y => decide (x ≤ y)).toArray) os := Any.sort_Ints Tryz.lays191 blk off cap zs w hH hblk hsz
open Go.RowKit Go.Sort in
theorem Tryz.slices_Sort_int_none (p : Option Addr) (cap : Nat) (w : World) :
  Calls Tryz.prog 93 #[.slice p 0 cap] w fun e w' => e = .returned (.tuple #[]) ∧ w' = w := Any.slices_Sort_int_none Tryz.lays189 p cap w
open Go.RowKit Go.Sort in
theorem Tryz.sort_Ints_none (p : Option Addr) (cap : Nat) (w : World) :
  Calls Tryz.prog 79 #[.slice p 0 cap] w fun e w' => e = .returned (.tuple #[]) ∧ w' = w := Any.sort_Ints_none Tryz.lays191 p cap w
end Go.Proofs
/- Assertions in whatever order; the library's sort at an owned slice of integers. -/
namespace Go.Proofs.YtmfngjclccehaaaGreatDoor
open Go Go.RowKit Go.Sep
theorem sort_ints (w0 w : World) (v : Value) (l : List Int) (L : List HProp) (hs : S w0 w (sl 3 1 v l.length (icells l) :: L)) (hb : l.length ≤ 4000000) :
  Calls Tryz.prog 93 #[v] w fun e w' => e = .returned (.tuple #[]) ∧ S w0 w' (sl 3 1 v l.length (icells (sortI l)) :: L) := by
 rcases Nat.eq_zero_or_pos l.length with h0 | hp
 ·obtain rfl := List.eq_nil_of_length_eq_zero h0
  obtain ⟨a, cap, rfl, _⟩ := hs.sl_val
  exact (Tryz.slices_Sort_int_none a cap w).mono fun e w' ⟨h1, h2⟩ => ⟨h1, by rw [h2]; simpa [sortI] using hs⟩
 ·obtain ⟨g, o, cap, rfl, _⟩ := hs.sl_some (by rw [icells_length]; exact hp)
  obtain ⟨h1, h2, h3⟩ := hs.sl_sort
  refine (Tryz.slices_Sort_int g o cap l w h1 h2 (by omega)).mono fun e w' ⟨he, n, os, hw⟩ => ⟨he, ?_⟩
  rw [hw]
  exact h3 (sortI l) n os (sortI_len l)
end Go.Proofs.YtmfngjclccehaaaGreatDoor
/- The reference's table: an empty slice to be read. -/
namespace Go.Sep
open Go Go.RowKit
theorem RdK.nil {w0 : World} {L : List HProp} : RdK w0 L (.slice none 0 0) 0 [] := fun w _ => ⟨none, 0, rfl, Nat.le_refl _, Nat.zero_le _, by simp⟩
end Go.Sep
/- Maps of whole numbers, and of slices: what a lookup gives. -/
namespace Go.Proofs.YtmfngjclccehaaaGreatDoor
open Go Go.RowKit Go.Sep
theorem Tryz.zero_int (w : World) : (zeroValue 3).run Tryz.prog w = .ok (.int .i64 0) w := by kernel_rfl
theorem Tryz.zero_ints (w : World) : (zeroValue 48).run Tryz.prog w = .ok (.slice none 0 0) w := by kernel_rfl
theorem Tryz.keyInt : KeyOk Tryz.prog 3 encI (fun _ => True) := keyOk_int Tryz.underlying3
theorem getD_ienc (o : Option Int) : (o.map encI).getD (.int .i64 0) = .int .i64 (o.getD 0) := by cases o <;> rfl
theorem Tryz.look2 {w : World} {b : Nat} {D : List (Int × Int)} (h : MapAt encI (fun _ => True) w b (ienc D)) (k : Int) :
  (Instr.lookup 53 (.map (some b)) (.int .i64 k) true).run Tryz.prog w = .ok (.tuple #[.int .i64 ((mget D k).getD 0), .bool (mget D k).isSome]) w := by
 have := run_lookup_at Tryz.keyInt Tryz.underlying53 (Tryz.zero_int w) h k trivial true
 rw [ienc_get, getD_ienc] at this
 simpa [encI] using this
theorem Tryz.look1 {w : World} {b : Nat} {D : List (Int × Int)} (h : MapAt encI (fun _ => True) w b (ienc D)) (k : Int) :
  (Instr.lookup 53 (.map (some b)) (.int .i64 k) false).run Tryz.prog w = .ok (.int .i64 ((mget D k).getD 0)) w := by
 have := run_lookup_at Tryz.keyInt Tryz.underlying53 (Tryz.zero_int w) h k trivial false
 rw [ienc_get, getD_ienc] at this
 simpa [encI] using this
theorem Tryz.look2n (w : World) (k : Int) : (Instr.lookup 53 (.map none) (.int .i64 k) true).run Tryz.prog w = .ok (.tuple #[.int .i64 0, .bool false]) w := by
 have := run_lookup_nil Tryz.keyInt Tryz.underlying53 (Tryz.zero_int w) k trivial true
 simpa [encI] using this
theorem Tryz.look1n (w : World) (k : Int) : (Instr.lookup 53 (.map none) (.int .i64 k) false).run Tryz.prog w = .ok (.int .i64 0) w := by
 have := run_lookup_nil Tryz.keyInt Tryz.underlying53 (Tryz.zero_int w) k trivial false
 simpa [encI] using this
theorem Tryz.lookL {w : World} {b : Nat} {E : List (Int × (Value × List Int))} (h : MapAt encI (fun _ => True) w b (E.map fun p => (p.1, p.2.1))) (k : Int) :
  (Instr.lookup 62 (.map (some b)) (.int .i64 k) false).run Tryz.prog w = .ok (lineOf E k).1 w := by
 have := run_lookup_at Tryz.keyInt Tryz.underlying62 (Tryz.zero_ints w) h k trivial false
 rw [mget_map (fun x : Value × List Int => x.1)] at this
 have e : ((mget E k).map fun x => x.1).getD (.slice none 0 0) = (lineOf E k).1 := by unfold lineOf; cases mget E k <;> rfl
 rw [e] at this
 simpa [encI] using this
theorem ienc_perm {a b : List (Int × Int)} (h : (ienc a).Perm (ienc b)) : a.Perm b := by
 have := h.map fun p : Int × Value => (p.1, match p.2 with | .int _ n => n | _ => 0)
 simpa [ienc, List.map_map, Function.comp_def, Sep.encI] using this
theorem ienc_snoc (a : List (Int × Int)) (p : Int × Int) : ienc a ++ [(p.1, Sep.encI p.2)] = ienc (a ++ [p]) := by simp [ienc]
theorem ienc_mem {D : List (Int × Int)} {d : Int × Value} (h : d ∈ ienc D) : ∃ p ∈ D, d = (p.1, Sep.encI p.2) := by
 obtain ⟨p, hp, rfl⟩ := List.mem_map.1 h; exact ⟨p, hp, rfl⟩
end Go.Proofs.YtmfngjclccehaaaGreatDoor
/- The program's table of locks: the readers' walks. -/
namespace Go.Proofs.YtmfngjclccehaaaGreatDoor
open Go Go.RowKit Go.Sep
theorem tholds_any (w0 w : World) (T b o : Nat) (t : Tbl) (key : Int) (L : List HProp) (hs : S w0 w (tabP T b o t :: L)) :
  Calls Tryz.prog 75 #[.pointer (some ⟨b, o, none⟩), .int .i64 key] w fun e w' => e = .returned (.int .i64 ((mget t.hold key).getD 0)) ∧ w = w' := by
 rcases hs.tab_cases with h0 | ⟨bh, bl, bb, E, h⟩
 ·obtain ⟨rfl, h1⟩ := h0.tab0_cells
  have hc : w.cell? ⟨b, o + 0, none⟩ = some (.map none) := S.cells_cell (vs := [.map none, .map none, .map none]) h1 0 rfl
  rw [Nat.add_zero] at hc
  have hl := Tryz.look1n w key
  clear hs h0 h1
  go_enter Tryz.func75, Tryz.ntmps75
  go_wp2
  go_ret
  exact ⟨rfl, rfl⟩
 ·obtain ⟨hc, _, _, hm, _, _⟩ := h.tab_see
  have hl := Tryz.look1 hm key
  clear hs h hm
  go_enter Tryz.func75, Tryz.ntmps75
  go_wp2
  go_ret
  exact ⟨rfl, rfl⟩
theorem twaits_any (w0 w : World) (T b o : Nat) (t : Tbl) (x : Int) (L : List HProp) (hs : S w0 w (tabP T b o t :: L)) :
  Calls Tryz.prog 74 #[.pointer (some ⟨b, o, none⟩), .int .i64 x] w fun e w' => e = .returned (.int .i64 ((mget t.wait x).getD (-1))) ∧ w = w' := by
 rcases hs.tab_cases with h0 | ⟨bh, bl, bb, E, h⟩
 ·obtain ⟨rfl, h1⟩ := h0.tab0_cells
  have hc : w.cell? ⟨b, o + 2, none⟩ = some (.map none) := S.cells_cell (vs := [.map none, .map none, .map none]) h1 2 rfl
  have hl := Tryz.look2n w x
  clear hs h0 h1
  go_enter Tryz.func74, Tryz.ntmps74
  go_wp2
  go_ret
  exact ⟨rfl, rfl⟩
 ·obtain ⟨_, _, hc, _, hm, _⟩ := h.tab_see
  have hl := Tryz.look2 hm x
  clear hs h hm
  cases hg : mget t.wait x with
  | none =>
   rw [hg] at hl
   simp only [Option.getD_none, Option.isSome_none] at hl
   go_enter Tryz.func74, Tryz.ntmps74
   go_wp2
   go_ret
   exact ⟨rfl, rfl⟩
  | some y =>
   rw [hg] at hl
   simp only [Option.getD_some, Option.isSome_some] at hl
   go_enter Tryz.func74, Tryz.ntmps74
   go_wp2
   go_ret
   exact ⟨rfl, rfl⟩
set_option maxRecDepth 20000 in
set_option maxHeartbeats 4000000 in
theorem tbegin_any (w0 w : World) (T b o : Nat) (t : Tbl) (L : List HProp) (hs : S w0 w (tabP T b o t :: L)) :
  Calls Tryz.prog 84 #[.pointer (some ⟨b, o, none⟩)] w fun e w' => e = .returned (.tuple #[]) ∧ ∃ bh bl bb E, S w0 w' (tabM T b o bh bl bb E t :: L) := by
 have heq := fun w r => run_eql_map_nil (P := Tryz.prog) w 53 3 3 r Tryz.underlying53
 rcases hs.tab_cases with h0 | ⟨bh, bl, bb, E, h⟩
 ·obtain ⟨rfl, h1⟩ := h0.tab0_cells
  have s3 := (((h1.made (κ := Int) (enc := encI) (ok := fun _ => True)).made (κ := Int) (enc := encI) (ok := fun _ => True)).made (κ := Int) (enc := encI) (ok := fun _ => True)).rot4
  have c0 : w.cell? ⟨b, o + 0, none⟩ = some (.map none) := S.cells_cell (vs := [.map none, .map none, .map none]) h1 0 rfl
  have e : ∀ j < 3, ([.map none, .map none, .map none] : List Value)[j]? = some (.map none) := fun j hj => by match j, hj with | 0, _ => rfl | 1, _ => rfl | 2, _ => rfl
  have hc0 := And.intro (S.cells_cell (vs := [.map none, .map none, .map none]) s3 0 (e 0 (by omega))) (S.cells_free (vs := [.map none, .map none, .map none]) s3 0 (e 0 (by omega)))
  have hc1 := And.intro (S.cells_cell (vs := [.map none, .map none, .map none]) s3 1 (e 1 (by omega))) (S.cells_free (vs := [.map none, .map none, .map none]) s3 1 (e 1 (by omega)))
  have hc2 := And.intro (S.cells_cell (vs := [.map none, .map none, .map none]) s3 2 (e 2 (by omega))) (S.cells_free (vs := [.map none, .map none, .map none]) s3 2 (e 2 (by omega)))
  rw [Nat.add_zero] at hc0 c0
  obtain ⟨d0, f0⟩ := hc0
  obtain ⟨d1, f1⟩ := hc1
  obtain ⟨d2, f2⟩ := hc2
  have hmm := @run_makeMap Tryz.prog
  have hfs := World.frozen?_setCell
  have H := hid s3
  clear hs h0 h1 e s3
  go_enter Tryz.func84, Tryz.ntmps84
  go_wp2
  go_end0
  refine ⟨rfl, w.heap.size, w.heap.size + 1, w.heap.size + 1 + 1, [], ?_⟩
  have s4 := ((H.out.set 0 (by simp) (.map (some w.heap.size))).set 1 (by simp) (.map (some (w.heap.size + 1)))).set 2 (by simp) (.map (some (w.heap.size + 1 + 1)))
  simp only [List.set_cons_zero, List.set_cons_succ, Nat.add_zero, World.size_alloc] at s4
  refine S.tab_join rfl (s4.conv ?_)
  simp only [ienc, List.map_nil, all, emp_sep]
  rw [sep_left_comm (mp _ _ (w.heap.size + 1) _) (mp _ _ w.heap.size _), sep_left_comm (mp _ _ (w.heap.size + 1 + 1) _) (mp _ _ w.heap.size _)]
 ·obtain ⟨hc, _, _, _, _, _⟩ := h.tab_see
  clear hs
  have H := hid h
  clear h
  go_enter Tryz.func84, Tryz.ntmps84
  go_wp2
  go_end0
  exact ⟨rfl, bh, bl, bb, E, H.out⟩
theorem line_of {E : List (Int × (Value × List Int))} {t : Tbl} (h : E.map (fun p => (p.1, p.2.2)) = t.line) (k : Int) : (lineOf E k).2 = (mget t.line k).getD [] := by
 rw [← h, mget_map (fun x : Value × List Int => x.2)]
 unfold lineOf
 cases mget E k <;> rfl
end Go.Proofs.YtmfngjclccehaaaGreatDoor
/- The program's table of locks: who asks. -/
namespace Go.Proofs.YtmfngjclccehaaaGreatDoor
open Go Go.RowKit Go.Sep
def errV (e : Int) : Value := if e = 0 then .nilIface else .iface 25 (.int .i64 e)
def AskPost (w0 : World) (b o : Nat) (t : Tbl) (tx key : Int) (c : Bool) (L : List HProp) (e : Ending) (w' : World) : Prop :=
 e = .returned (.tuple #[.bool (tbAsk t tx key c).2.1, errV (tbAsk t tx key c).2.2]) ∧ S w0 w' (tabP 3 b o (tbAsk t tx key c).1 :: L)
set_option maxRecDepth 20000 in
set_option maxHeartbeats 4000000 in
theorem task_any (w0 w : World) (b o : Nat) (t : Tbl) (tx key : Int) (r : Int → Nat) (c : Bool) (L : List HProp) (hs : S w0 w (tabP 3 b o t :: L)) (hr : Ranked t r)
  (hch : ∀ h, mget t.hold key = some h → ∃ n, chase t tx n h = some c) (hb : (lineAt t key).length ≤ 1000000) :
  Calls Tryz.prog 61 #[.pointer (some ⟨b, o, none⟩), .int .i64 tx, .int .i64 key] w (AskPost w0 b o t tx key c L) := by
 by_cases h1 : key < 0
 ·have H := hid hs; clear hs hr hch hb
  go_enter Tryz.func61, Tryz.ntmps61
  go_wp2_with fail
  go_ret2
  have ha : tbAsk t tx key c = (t, false, 2) := if_pos (by omega)
  exact ⟨by rw [ha]; rfl, by rw [ha]; exact H.out⟩
 by_cases h2 : 10 ≤ key
 ·have H := hid hs; clear hs hr hch hb
  go_enter Tryz.func61, Tryz.ntmps61
  go_wp2_with fail
  go_ret2
  have ha : tbAsk t tx key c = (t, false, 2) := if_pos (by omega)
  exact ⟨by rw [ha]; rfl, by rw [ha]; exact H.out⟩
 by_cases h3 : tx < 1
 ·have H := hid hs; clear hs hr hch hb
  go_enter Tryz.func61, Tryz.ntmps61
  go_wp2_with fail
  go_ret2
  have ha : tbAsk t tx key c = (t, false, 2) := if_pos (by omega)
  exact ⟨by rw [ha]; rfl, by rw [ha]; exact H.out⟩
 have hno : ¬ (key < 0 ∨ 10 ≤ key ∨ tx < 1) := by omega
 have HN := hid hno
 clear hno
 have H := hid hs; have HR := hid hr; have HC := hid hch
 clear hs hr hch
 go_enter Tryz.func61, Tryz.ntmps61
 go_wp2_with fail
 with_reducible refine (tbegin_any w0 _ _ b o t L H.out).mono ?_
 rintro e w1 ⟨rfl, bh, bl, bb, E, hs1⟩
 have H1 := hid hs1
 obtain ⟨c0, c1, c2, m0, m2, _⟩ := hs1.tab_see
 have l2 := Tryz.look2 m2 tx
 clear H
 cases hw : mget t.wait tx with
 | some kk =>
  rw [hw] at l2
  simp only [Option.getD_some, Option.isSome_some] at l2
  clear hs1 m0 m2 c0 c1 HR HC
  go_wp2_with fail
  go_ret2
  have ha : tbAsk t tx key c = (t, false, 6) := by unfold tbAsk; rw [if_neg HN.out, hw]; rfl
  exact ⟨by rw [ha]; rfl, by rw [ha]; exact H1.out.tab_made⟩
 | none =>
  rw [hw] at l2
  simp only [Option.getD_none, Option.isSome_none] at l2
  have l0 := Tryz.look2 m0 key
  cases hh : mget t.hold key with
  | none =>
   rw [hh] at l0
   simp only [Option.getD_none, Option.isSome_none] at l0
   obtain ⟨w2, u2, hs2⟩ := hs1.tab_hold_put Tryz.keyInt Tryz.underlying53 key tx
   simp only [encI] at u2
   have H2 := hid hs2
   clear hs1 hs2 m0 m2 c1 HR HC
   go_wp2_with fail
   go_ret2
   have ha : tbAsk t tx key c = ({ t with hold := mput t.hold key tx }, true, 0) := by unfold tbAsk; rw [if_neg HN.out, hw, hh]; rfl
   exact ⟨by rw [ha]; rfl, by rw [ha]; exact H2.out.tab_made⟩
  | some h =>
   rw [hh] at l0
   simp only [Option.getD_some, Option.isSome_some] at l0
   by_cases hx : h = tx
   ·subst hx
    clear hs1 m0 m2 c1 HR HC
    go_wp2_with fail
    go_ret2
    have ha : tbAsk t h key c = (t, true, 0) := by unfold tbAsk; rw [if_neg HN.out, hw, hh]; exact if_pos rfl
    exact ⟨by rw [ha]; rfl, by rw [ha]; exact H1.out.tab_made⟩
   ·obtain ⟨n0, hn0⟩ := HC.out h hh
    have lk2 := fun x => Tryz.look2 m2 x
    have lk0 := fun k => Tryz.look1 m0 k
    have HN0 := hid hn0
    clear hs1 m0 m2 HC hn0
    go_wp2_with fail
    go_loopw [12] (fun x wr => ∃ (n : Nat) (y : Int), x = .int .i64 y ∧ Hid (chase t tx n y = some c) ∧ wr = w1) (fun x _ => r (intOf x))
    case atStart => exact ⟨n0, h, rfl, HN0, rfl⟩
    case round =>
     obtain ⟨n, y, rfl, hn, rfl⟩ := hrel
     cases n with
     | zero => exact absurd hn.out (by simp [chase])
     | succ n =>
      by_cases hy : y = tx
      ·subst hy
       have hc : c = true := by have := hn.out; unfold chase at this; rw [if_pos rfl] at this; exact (Option.some.inj this).symm
       subst hc
       go_wp2_with fail
       go_ret2
       have ha : tbAsk t y key true = (t, false, 11) := by unfold tbAsk; rw [if_neg HN.out, hw, hh]; show (if h = y then _ else _) = _; rw [if_neg hx]; rfl
       exact ⟨by rw [ha]; rfl, by rw [ha]; exact H1.out.tab_made⟩
      ·cases hwy : mget t.wait y with
       | some k =>
        have hn2 : chase t tx n ((mget t.hold k).getD 0) = some c := by have := hn.out; unfold chase at this; rw [if_neg hy, hwy] at this; exact this
        have hrk := HR.out y k hwy
        have hl := lk2 y
        rw [hwy] at hl
        simp only [Option.getD_some, Option.isSome_some] at hl
        have hl0 := lk0 k
        have HN2 := hid hn2
        clear hn2 hn lk2 lk0 hwy
        go_wp2_with fail
        go_roundw
        case rel => exact ⟨n, _, rfl, HN2, trivial⟩
        case measure => simpa [intOf] using hrk
       | none =>
        have hc : c = false := by have := hn.out; unfold chase at this; rw [if_neg hy, hwy] at this; exact (Option.some.inj this).symm
        subst hc
        have hl := lk2 y
        rw [hwy] at hl
        simp only [Option.getD_none, Option.isSome_none] at hl
        obtain ⟨w2, u2, hs2⟩ := H1.out.tab_wait_put Tryz.keyInt Tryz.underlying53 tx key
        simp only [encI] at u2
        obtain ⟨hp, _⟩ := hs2.tab_parts
        have hx3 := line_of hp key
        have hk := hs2.tab_line key
        rw [hx3] at hk
        have hsee := hk.drew.swap.tabX_see
        have d1 := hk.swap.tabX_see.2.1
        have hlt := World.block_lt_of_cell? w2 _ d1
        have lA := Tryz.lookL hsee.2.2.2.2.2 key
        obtain ⟨i0, hi0, hz0, hz1, hz2⟩ := info_parts Tryz.info3
        have hs3 : S w0 (w2.alloc (.cells #[.int .i64 tx] 3)).drew (blk w2.heap.size 3 [.int .i64 tx] :: sl 3 1 (lineOf E key).1 (lineAt t key).length (icells (lineAt t key)) :: tabX 3 b o bh bl bb E key { t with wait := mput t.wait tx key } :: L) := by
         have h5 := (hk.alloc #[.int .i64 tx] 3).drew
         simpa [lineAt] using h5
        have hn3 := news_blk hs3
        have hs4 := hs3.tail
        have hsee2 := hs4.swap.tabX_see
        have lA2 := Tryz.lookL hsee2.2.2.2.2.2 key
        have H3 := hid hs4; have H4 := hid hn3
        have hil := icells_length (lineAt t key)
        have HL := hid hil
        clear hs2 hk hsee hp HR HN0 lk2 lk0 l0 l2 c0 hs3 hs4 hn3 hsee2 hil
        go_wp2_with fail
        clear c1 c2 hl u2
        go_region_law (refine step_append rfl (.tmp 99) (.tmp 101) 48 rfl 3 i0 _ 1 8 Tryz.underlying48 hi0 hz0 hz1 hz2 rfl (by decide) H3.out rfl (some ⟨w2.heap.size, 0, none⟩) 1 1 [.int .i64 tx] rfl rfl H4.out (by simp [Value.oneCell']) (by unfold maxLen; omega) (by omega) ?_; intro v1 w1 hs1; obtain ⟨_, c9, _⟩ := hs1.swap.tabX_see; obtain ⟨w3, u3, hs5⟩ := S.tabX_put Tryz.keyInt Tryz.underlying62 (k := key) (v := v1) (l := lineAt t key ++ [tx]) (by simpa [icells] using hs1); simp only [encI] at u3; have HS := hid hs5; clear hs1 hs5)
        all_goals
         go_wp2_with fail
         go_ret2
         have ha : tbAsk t tx key false = ({ t with wait := mput t.wait tx key, line := mput t.line key (lineAt t key ++ [tx]) }, false, 0) := by unfold tbAsk; rw [if_neg HN.out, hw, hh]; show (if h = tx then _ else _) = _; rw [if_neg hx]; rfl
         exact ⟨by rw [ha]; rfl, by rw [ha]; exact HS.out.tab_made⟩
end Go.Proofs.YtmfngjclccehaaaGreatDoor
/- The program's table of locks: one is struck from a line. -/
namespace Go.Proofs.YtmfngjclccehaaaGreatDoor
open Go Go.RowKit Go.Sep
theorem drop1_any (x tx : Int) (bx : Nat) (w : World) (hc : w.cell? ⟨bx, 0, none⟩ = some (.int .i64 tx)) :
  Calls Tryz.prog 102 #[.int .i64 x, .pointer (some ⟨bx, 0, none⟩)] w fun e w' => e = .returned (.bool (x == tx)) ∧ w = w' := by
 go_enter Tryz.func102, Tryz.ntmps102
 go_wp2
 go_ret
 exact ⟨rfl, rfl⟩
abbrev dropF (bx : Nat) : Value := .func (.func 102) #[] #[.pointer (some ⟨bx, 0, none⟩)]
def ixOf (l : List Int) (tx : Int) : Int := match l.findIdx? (fun x => x == tx) with | some i => (i : Int) | none => -1
set_option maxRecDepth 20000 in
theorem index1_any (w0 w : World) (a : Option Addr) (cap : Nat) (l : List Int) (tx : Int) (bx : Nat) (L : List HProp) (hs : S w0 w (sl 3 1 (.slice a l.length cap) l.length (icells l) :: L)) (hc : w.cell? ⟨bx, 0, none⟩ = some (.int .i64 tx)) (hb : l.length ≤ 1000000) :
  Calls Tryz.prog 110 #[.slice a l.length cap, dropF bx] w fun e w' => e = .returned (.int .i64 (ixOf l tx)) ∧ w = w' := by
 have H := hid hs
 clear hs
 go_enter Tryz.func110, Tryz.ntmps110
 go_wp2_with fail
 go_loopw [8] (fun x wr => ∃ i : Nat, i ≤ l.length ∧ x = .int .i64 i ∧ (∀ j < i, l[j]? ≠ some tx) ∧ wr = w) (fun x _ => l.length - (intOf x).toNat)
 case atStart => exact ⟨0, Nat.zero_le _, rfl, fun _ h => absurd h (Nat.not_lt_zero _), rfl⟩
 case round =>
  obtain ⟨i, hi, rfl, hno, rfl⟩ := hrel
  by_cases hlt : i < l.length
  ·have hp : l[i]? = some l[i] := by simp [hlt]
   generalize l[i] = p at hp
   obtain ⟨g, og, rfl, hg, c1⟩ := H.out.sl_int hp
   have HP := hid hp
   have HN := hid hno
   clear hp hno
   by_cases hx : p = tx
   ·subst hx
    have hbe : (p == p) = true := by simp
    go_wp2_with (go_at_call 102; refine (drop1_any _ _ _ _ hc).mono ?_; rintro e w' ⟨rfl, rfl⟩)
    go_ret
    have hi2 : ixOf l p = i := by
     unfold ixOf
     have : l.findIdx? (fun x => x == p) = some i := by
      rw [List.findIdx?_eq_some_iff_getElem]
      refine ⟨hlt, ?_, fun j hj => ?_⟩
      ·have := HP.out; rw [List.getElem?_eq_some_iff] at this; obtain ⟨_, h2⟩ := this; simp [h2]
      ·have := HN.out j hj; simp only [ne_eq, beq_iff_eq]; intro h3; exact this (by rw [← h3]; simp)
     rw [this]
    exact ⟨by rw [hi2]; rfl, rfl⟩
   ·have hbe : (p == tx) = false := by simp [hx]
    go_wp2_with (go_at_call 102; refine (drop1_any _ _ _ _ hc).mono ?_; rintro e w' ⟨rfl, rfl⟩)
    go_roundw
    case rel => exact ⟨i + 1, by omega, by go_num, fun j hj => by
     rcases Nat.lt_succ_iff_lt_or_eq.1 hj with h | h
     ·exact HN.out j h
     ·subst h; rw [HP.out]; intro h; exact hx (Option.some.inj h), trivial⟩
    case measure => simp [intOf]; omega
  ·have hi2 : ixOf l tx = -1 := by
    unfold ixOf
    have : l.findIdx? (fun x => x == tx) = none := by
     rw [List.findIdx?_eq_none_iff]
     intro x hx
     obtain ⟨j, hj⟩ := List.getElem?_of_mem hx
     have hjl := (List.getElem?_eq_some_iff.1 hj).1
     have := hno j (by omega)
     simp only [beq_eq_false_iff_ne, ne_eq]
     intro h; subst h; exact this hj
    rw [this]
   have HI := hid hi2
   clear hi2 hno
   go_wp2_with fail
   go_ret
   exact ⟨by rw [HI.out]; rfl, rfl⟩
set_option maxRecDepth 40000 in
set_option maxHeartbeats 4000000 in
theorem delete1_any (w0 w : World) (a : Option Addr) (cap : Nat) (l : List Int) (tx : Int) (bx : Nat) (L : List HProp)
  (hs : S w0 w (sl 3 1 (.slice a l.length cap) l.length (icells l) :: blk bx 3 [.int .i64 tx] :: L)) (hb : l.length ≤ 1000000) :
  Calls Tryz.prog 101 #[.slice a l.length cap, dropF bx] w fun e w' => ∃ v', e = .returned v' ∧
   S w0 w' (sl 3 1 v' (strike l tx).length (icells (strike l tx)) :: blk bx 3 [.int .i64 tx] :: L) := by
 have hc := hs.swap.blk_cell 0 rfl
 have H := hid hs
 clear hs
 cases hx : l.findIdx? (fun x => x == tx) with
 | none =>
  have hix : ixOf l tx = -1 := by unfold ixOf; rw [hx]
  have hst : strike l tx = l := by
   apply strike_none
   rw [List.findIdx?_eq_none_iff] at hx
   intro x h; simpa using hx x h
  rw [hst]
  clear hx hst
  go_enter Tryz.func101, Tryz.ntmps101
  go_wp2_with (go_at_call 110; refine (index1_any w0 _ a cap l tx bx _ H.out hc hb).mono ?_; rw [hix]; rintro e w' ⟨rfl, rfl⟩)
  go_ret
  exact ⟨_, rfl, H.out⟩
 | some i0 =>
  have hix : ixOf l tx = (i0 : Int) := by unfold ixOf; rw [hx]
  rw [List.findIdx?_eq_some_iff_getElem] at hx
  obtain ⟨hi0, hat, hbef⟩ := hx
  have hst : strike (l.take (i0 + 1)) tx = l.take i0 := by
   rw [take_succ_get (show l[i0]? = some l[i0] by simp [hi0]), strike_snoc, if_pos (by simpa using hat)]
   apply strike_none
   intro x h
   obtain ⟨j, hj⟩ := List.getElem?_of_mem h
   rw [List.getElem?_take] at hj
   split at hj
   ·rename_i hji
    have hjl := (List.getElem?_eq_some_iff.1 hj)
    obtain ⟨h1, h2⟩ := hjl
    have := hbef j hji
    rw [h2] at this
    simpa using this
   ·cases hj
  obtain ⟨g, og, rfl, hg, _⟩ := H.out.sl_int (show l[i0]? = some l[i0] by simp [hi0])
  clear hat
  have HS := hid hst
  clear hst hbef
  have hb0 : ((i0 : Int) == -1) = false := by simp
  go_enter Tryz.func101, Tryz.ntmps101
  go_wp2_with (go_at_call 110; refine (index1_any w0 _ _ cap l tx bx _ H.out hc hb).mono ?_; rw [hix]; rintro e w' ⟨rfl, rfl⟩)
  go_loopw [5, 6, 7] (fun u c _ wr => ∃ (i j : Nat) (cur : List Int), u = .int .i64 i ∧ c = .int .i64 j ∧ i < j ∧ j ≤ l.length ∧ cur.length = l.length ∧ Hid (cur.take i = strike (l.take j) tx ∧ cur.drop j = l.drop j) ∧
   S w0 wr (sl 3 1 (.slice (some ⟨g, og, none⟩) l.length cap) l.length (icells cur) :: blk bx 3 [.int .i64 tx] :: L)) (fun _ c _ _ => l.length - (intOf c).toNat)
  case atStart => exact ⟨i0, i0 + 1, l, rfl, by go_num, by omega, by omega, rfl, ⟨HS.out.symm, rfl⟩, H.out⟩
  case round =>
   obtain ⟨i, j, cur, rfl, rfl, hij, hj, hlen, hcur, hsr⟩ := hrel
   clear hc
   have hc := hsr.swap.blk_cell 0 rfl
   by_cases hlt : j < l.length
   ·have hp : l[j]? = some l[j] := by simp [hlt]
    generalize l[j] = p at hp
    have hpc : cur[j]? = some p := by
     have := congrArg (fun x => x[0]?) hcur.out.2
     simpa [hp] using this
    have hnth := take_succ_get hp
    obtain ⟨hc1, hc2⟩ := hcur.out
    have hstk : strike (l.take (j + 1)) tx = if p = tx then strike (l.take j) tx else strike (l.take j) tx ++ [p] := by rw [hnth, strike_snoc]
    have hdrop : cur.drop (j + 1) = l.drop (j + 1) := by
     have := congrArg (fun x => x.drop 1) hc2
     simpa [List.drop_drop] using this
    obtain ⟨gx, ox, hg0, _, d1⟩ := hsr.sl_int (a := some ⟨g, og, none⟩) hpc
    obtain ⟨rfl, rfl⟩ : g = gx ∧ og = ox := by simpa using hg0
    have hlen2 : (icells cur).length = l.length := by rw [icells_length]; exact hlen
    by_cases hx : p = tx
    ·subst hx
     have hbe : (p == p) = true := by simp
     have hfin : cur.take i = strike (l.take (j + 1)) p ∧ cur.drop (j + 1) = l.drop (j + 1) := ⟨by rw [hstk, if_pos rfl]; exact hc1, hdrop⟩
     have HF := hid hfin; have HR := hid hsr
     have HL := hid hlen
     clear hfin hsr hc1 hc2 hdrop hstk hlen2 hnth hpc hp hcur hlen hg0
     go_wp2_with (go_at_call 102; refine (drop1_any _ _ _ _ hc).mono ?_; rintro e w' ⟨rfl, rfl⟩)
     go_roundw
     case rel => exact ⟨i, j + 1, cur, rfl, by go_num, by omega, by omega, HL.out, HF, HR.out⟩
     case measure => simp [intOf]; omega
    ·have hbe : (p == tx) = false := by simp [hx]
     have hfin : (cur.set i p).take (i + 1) = strike (l.take (j + 1)) tx ∧ (cur.set i p).drop (j + 1) = l.drop (j + 1) := by
      refine ⟨?_, ?_⟩
      ·rw [hstk, if_neg hx, ← hc1, take_succ_get (show (cur.set i p)[i]? = some p from List.getElem?_set_self (by omega)), List.take_set_of_le (by omega)]
      ·rw [List.drop_set_of_lt (by omega)]; exact hdrop
     have hset := hsr.sl_set rfl i (by omega) (.int .i64 p)
     have hset2 : (icells cur).set i (.int .i64 p) = icells (cur.set i p) := by simp [icells, List.map_set]
     rw [hset2] at hset
     obtain ⟨gy, oy, _, hg1, _, _, _, _, hd0, hf0⟩ := hsr.sl_some (by omega)
     obtain ⟨⟨rfl, rfl⟩, -⟩ : (g = gy ∧ og = oy) ∧ _ := by simpa using hg1
     have c0 := hd0 i _ (List.getElem?_eq_getElem (by omega))
     have f0 := hf0 (og + i)
     generalize (icells cur)[i]'(by omega) = u0 at c0
     have HF := hid hfin; have HR := hid hset
     have HL : Hid ((cur.set i p).length = l.length) := hid (by rw [List.length_set]; exact hlen)
     clear hfin hset hset2 hsr hc1 hc2 hdrop hstk hlen2 hnth hpc hp hcur hlen hg0 hg1 hd0 hf0
     go_wp2_with (go_at_call 102; refine (drop1_any _ _ _ _ hc).mono ?_; rintro e w' ⟨rfl, rfl⟩)
     go_roundw
     case rel => exact ⟨i + 1, j + 1, cur.set i p, by go_num, by go_num, by omega, by omega, HL.out, HF, HR.out⟩
     case measure => simp [intOf]; omega
   ·have hjl : j = l.length := by omega
    subst hjl
    obtain ⟨hc1, _⟩ := hcur.out
    rw [List.take_length] at hc1
    have hil : i ≤ l.length := by omega
    have hcl : ∀ ty, (Builtin.clear_ #[48] ty #[.slice (some ⟨g, og + i, none⟩) (l.length - i) (cap - i)]).run Tryz.prog wr = .ok (.tuple #[]) (wr.setCells g (og + i) (List.replicate (l.length - i) (.int .i64 0))) := by
     intro ty
     obtain ⟨gy, oy, _, hg1, _, _, _, _, hd0, hf0⟩ := hsr.sl_some (by rw [icells_length]; omega)
     obtain ⟨⟨rfl, rfl⟩, -⟩ : (g = gy ∧ og = oy) ∧ _ := by simpa using hg1
     refine Lib.run_clear_slice wr _ _ ty _ Tryz.underlying48 Tryz.zero_int rfl rfl g (og + i) _ _ (by omega) (fun j hj => ?_) (fun j hj => hf0 _)
     have : i + j < (icells cur).length := by rw [icells_length]; omega
     rw [Nat.add_assoc, hd0 (i + j) _ (List.getElem?_eq_getElem this)]
     rfl
    have hfin : S w0 (wr.setCells g (og + i) (List.replicate (l.length - i) (.int .i64 0))) (sl 3 1 (.slice (some ⟨g, og, none⟩) i cap) i (icells (strike l tx)) :: blk bx 3 [.int .i64 tx] :: L) := by
     have h1 := hsr.sl_setCells (List.replicate (l.length - i) (.int .i64 0)) i (by rw [icells_length, List.length_replicate]; omega)
     have h2 := h1.sl_take i hil
     rw [← hc1]
     rw [Nat.mul_one, List.append_assoc, List.take_left' (by rw [List.length_take, icells_length]; omega)] at h2
     have e : icells (cur.take i) = (icells cur).take i := by simp [icells, List.map_take]
     rw [e]; exact h2
    have hsl : (strike l tx).length = i := by rw [← hc1, List.length_take]; omega
    have HF := hid hfin; have HS2 := hid hsl
    have hcp := hsr.sl_val
    obtain ⟨_, _, hv, hcap, hcap2, _⟩ := hcp
    obtain ⟨-, rfl⟩ : _ ∧ cap = _ := by simpa using hv
    unfold maxLen at hcap2
    clear hfin hsl hsr hc1 hcur hlen hv
    go_wp2_with fail
    go_ret
    exact ⟨_, rfl, by rw [HS2.out]; exact HF.out⟩
end Go.Proofs.YtmfngjclccehaaaGreatDoor
/- Maps on the model's heap: an entry that is found first, and written later (an assignment to several things). No program in sight. -/
namespace Go.Sep
open Go Go.RowKit
set_option linter.unusedSectionVars false
section
variable {κ : Type} [DecidableEq κ] {P : Program} {kt : TypeId} {enc : κ → Value} {ok : κ → Prop} {w w0 : World} {L : List HProp} {b r : Nat} {D : List (κ × Value)}
theorem setObjW_cell {o : Obj} {a : Addr} {v : Value} (h : ∀ c e f, w.heap[r]? ≠ some (.cells c e f)) (hc : w.cell? a = some v) : (setObjW w r o).cell? a = some v := by
 have hne : a.block ≠ r := by
  intro e
  unfold World.cell? at hc
  rw [e] at hc
  cases hh : w.heap[r]? with
  | none => rw [hh] at hc; simp at hc
  | some o' =>
   rw [hh] at hc
   cases o' with
   | cells c e' f => exact h c e' f hh
   | _ => simp at hc
 rw [← hc]
 exact World.cell?_of_block (by simp [setObjW, Array.getElem?_setIfInBounds_ne (fun e => hne e.symm)])
theorem mput_mput {κ ν : Type} [DecidableEq κ] (D : List (κ × ν)) (k : κ) (u v : ν) : mput (mput D k u) k v = mput D k v := by
 have h1 : (mget (mput D k u) k).isSome := by rw [mget_put]; simp
 unfold mput at h1 ⊢
 rw [if_pos h1]
 by_cases h : (mget D k).isSome
 ·rw [if_pos h, if_pos h, List.map_map]
  apply List.map_congr_left
  intro d _
  simp only [Function.comp]
  by_cases e : d.1 = k <;> simp [e]
 ·rw [if_neg h, if_neg h, List.map_append]
  congr 1
  ·have hn : k ∉ D.map (·.1) := mget_none.1 (by simpa using h)
   conv => rhs; rw [← List.map_id D]
   apply List.map_congr_left
   intro d hd
   have : d.1 ≠ k := fun e => hn (by rw [← e]; exact List.mem_map_of_mem hd)
   simp [this]
  ·simp
def entP (enc : κ → Value) (ok : κ → Prop) (b : Nat) (D : List (κ × Value)) (k : κ) (st : Nat) : HProp :=
 ex fun es : Array MapEntry => ex fun clock : Nat => sep (pur (MapObj enc ok D es clock ∧ ∃ (i : Nat) (e : MapEntry), es.toList[i]? = some e ∧ e.born = st ∧ (D.map (·.1))[i]? = some k)) (ob b (.map es clock))
theorem S.entry_find (K : KeyOk P kt enc ok) {t e : TypeId} (ht : P.underlying t = some (.map kt e)) {z : Value} (hz : (zeroValue e).run P w = .ok z w) (h : S w0 w (mp enc ok b D :: L)) (k : κ) (hk : ok k) :
  ∃ (st : Nat) (w' : World), (Instr.mapEntry t (.map (some b)) (enc k)).run P w = .ok (.tuple #[(mget D k).getD z, .int .i64 (st : Int)]) w' ∧ S w0 w' (entP enc ok b (mput D k ((mget D k).getD z)) k st :: L) ∧ ∀ a v, w.cell? a = some v → w'.cell? a = some v := by
 obtain ⟨es, h⟩ := h.ex_elim
 obtain ⟨clock, h⟩ := h.ex_elim
 obtain ⟨hm, h⟩ := h.sep_elim.pur_elim
 have hb := h.obj
 have hnc : ∀ c e f, w.heap[b]? ≠ some (.cells c e f) := by intro c e f; rw [hb]; simp
 have hf := K.find k es.toList (D.map (·.1)) w hk (by intro x hx; obtain ⟨d, hd, rfl⟩ := List.mem_map.1 hx; exact hm.2.2.2.2 d hd) (keys_of hm)
 have hg := find_zip D es.toList k 0 hm.1
 have hlen : es.size = D.length := by have := congrArg List.length hm.1; simpa using this
 cases hx : ((D.map (·.1)).zip es.toList).zipIdx.find? (fun x => decide (x.1.1 = k)) with
 | none =>
  rw [hx] at hg
  simp at hg
  have hp : mput D k z = D ++ [(k, z)] := by unfold mput; rw [← hg]; simp
  have hnd := keys_put_nodup hm.2.2.2.1 k z
  refine ⟨clock, setObjW w b (.map (es.push { key := enc k, val := z, born := clock }) (clock + 1)), ?_, ?_, fun a v hc => setObjW_cell hnc hc⟩
  ·simp only [Instr.mapEntry, Sem.run_bind, run_underlying ht, Result.andThen_ok, run_getObj_map hb, K.check, hf, hx, Option.map_none, hz, run_setObj_map hb, Sem.run_pure, ← hg, Option.getD_none]
   rfl
  ·rw [← hg, Option.getD_none]
   refine .ex_intro _ (.ex_intro _ (.sep_intro (.pur_intro ?_ (h.set_obj (by simp) (by simp)))))
   refine ⟨⟨by rw [hp]; simp [hm.1], ?_, ?_, hnd, ?_⟩, D.length, { key := enc k, val := z, born := clock }, ?_, rfl, ?_⟩
   ·simp only [Array.toList_push, List.map_append, List.map_cons, List.map_nil]
    rw [List.nodup_append]
    refine ⟨hm.2.1, by simp, ?_⟩
    intro a ha c hc
    simp at hc; subst hc
    obtain ⟨e', he', rfl⟩ := List.mem_map.1 ha
    have := hm.2.2.1 e' he'; omega
   ·intro e' he'
    simp only [Array.toList_push, List.mem_append, List.mem_singleton] at he'
    rcases he' with he' | rfl
    ·have := hm.2.2.1 e' he'; omega
    ·simp
   ·intro d hd
    rw [hp] at hd
    rcases List.mem_append.1 hd with h1 | h1
    ·exact hm.2.2.2.2 d h1
    ·simp at h1; subst h1; exact hk
   ·rw [Array.toList_push, List.getElem?_append_right (by simp [hlen])]; simp [hlen]
   ·rw [hp]; simp
 | some x =>
  obtain ⟨i, h1, h2, h3, h4⟩ := find_zip_idx (enc := enc) D es.toList k 0 x hm.1 hm.2.2.2.1 hx
  simp only [Nat.zero_add] at h1
  have hkey : x.1.2.key = enc k := by
   have e1 := congrArg (·[i]?) (keys_of hm)
   simp only [List.getElem?_map, h4] at e1
   have e2 := (h3 i).2 rfl
   simp only [List.getElem?_map] at e2
   cases hd : D[i]? with
   | none => rw [hd] at e2; simp at e2
   | some d => rw [hd] at e1 e2; simp at e1 e2; rw [e1, e2]
  have hget : es[i]? = some x.1.2 := by simpa using h4
  rw [hx] at hg
  simp at hg
  have hmod : es.modify i (fun e => { e with key := enc k }) = es := by
   apply Array.ext_getElem?
   intro j
   rw [Array.getElem?_modify]
   by_cases hij : i = j
   ·subst hij; rw [if_pos rfl, hget]; simp [← hkey]
   ·rw [if_neg hij]
  have hpp : mput D k x.1.2.val = D := by
   unfold mput
   rw [← hg, Option.isSome_some, if_pos rfl]
   conv => rhs; rw [← List.map_id D]
   apply List.map_congr_left
   intro d hd
   by_cases e : d.1 = k
   ·have := mget_mem hm.2.2.2.1 (show (d.1, d.2) ∈ D from hd)
    rw [e, ← hg] at this
    simp only [e, if_true, id]
    have := Option.some.inj this
    rw [this, ← e]
   ·simp [e]
  refine ⟨x.1.2.born, setObjW w b (.map es clock), ?_, ?_, fun a v hc => setObjW_cell hnc hc⟩
  ·simp only [Instr.mapEntry, Sem.run_bind, run_underlying ht, Result.andThen_ok, run_getObj_map hb, K.check, hf, hx, Option.map_some, h1, hget, Option.getD_some, hkey, K.stays, run_setObj_map hb, Sem.run_pure, hmod, ← hg]
   rfl
  ·rw [← hg, Option.getD_some, hpp]
   refine .ex_intro es (.ex_intro clock (.sep_intro (.pur_intro ⟨hm, i, x.1.2, h4, rfl, (h3 i).2 rfl⟩ (h.set_obj (by simp) (by simp)))))
theorem S.entry_store {D : List (κ × Value)} {k : κ} {st : Nat} (h : S w0 w (entP enc ok b D k st :: L)) (t : TypeId) (v : Value) :
  ∃ w', (Instr.entryStore t (.map (some b)) (.int .i64 (st : Int)) v).run P w = .ok () w' ∧ S w0 w' (mp enc ok b (mput D k v) :: L) ∧ ∀ a u, w.cell? a = some u → w'.cell? a = some u := by
 obtain ⟨es, h⟩ := h.ex_elim
 obtain ⟨clock, h⟩ := h.ex_elim
 obtain ⟨⟨hm, i, e, hi, hst, hki⟩, h⟩ := h.sep_elim.pur_elim
 have hb := h.obj
 have hnc : ∀ c e f, w.heap[b]? ≠ some (.cells c e f) := by intro c e f; rw [hb]; simp
 have hidx : es.findIdx? (fun e => (e.born : Int) == (st : Int)) = some i := by
  have hlt : i < es.size := by have := (List.getElem?_eq_some_iff.1 hi).1; simpa using this
  rw [Array.findIdx?_eq_some_iff_getElem]
  have hei : es[i] = e := by have := (List.getElem?_eq_some_iff.1 hi).2; simpa using this
  refine ⟨hlt, by rw [hei]; simp [hst], fun j hj => ?_⟩
  have hjl : j < es.size := by omega
  have : es[j].born ≠ st := by
   intro ej
   have q1 : (es.toList.map (·.born))[j]? = some st := by simp [hjl, ej]
   have q2 : (es.toList.map (·.born))[i]? = some st := by rw [List.getElem?_map, hi]; simp [hst]
   have := (List.getElem?_inj (by simp; omega) hm.2.1).1 (q1.trans q2.symm)
   omega
  simp; omega
 have hki' : ∀ j, (D.map (·.1))[j]? = some k ↔ j = i := by
  intro j
  constructor
  ·intro hj; exact (List.getElem?_inj (List.getElem?_eq_some_iff.1 hj).1 hm.2.2.2.1).1 (hj.trans hki.symm)
  ·rintro rfl; exact hki
 have hkey : e.key = enc k := by
  have e1 := congrArg (·[i]?) (keys_of hm)
  simp only [List.getElem?_map, hi] at e1
  have e2 := hki
  simp only [List.getElem?_map] at e2
  cases hd : D[i]? with
  | none => rw [hd] at e2; simp at e2
  | some d => rw [hd] at e1 e2; simp at e1 e2; rw [e1, e2]
 have hsome : (mget D k).isSome := by
  cases hg : mget D k with
  | none => exact absurd (List.mem_of_getElem? hki) (mget_none.1 hg)
  | some _ => rfl
 have hp : mput D k v = D.map fun d => if d.1 = k then (k, v) else d := by unfold mput; rw [if_pos hsome]
 refine ⟨setObjW w b (.map (es.modify i fun e => { e with val := v }) clock), ?_, ?_, fun a u hc => setObjW_cell hnc hc⟩
 ·simp only [Instr.entryStore, Sem.run_bind, run_getObj_map hb, Result.andThen_ok, asInt, asIntOf, Sem.run_pure, hidx, run_setObj_map hb]
 ·have hmod : (es.modify i fun e => { e with val := v }) = es.modify i fun e => { e with key := enc k, val := v } := by
   apply Array.ext_getElem?
   intro j
   rw [Array.getElem?_modify, Array.getElem?_modify]
   by_cases hij : i = j
   ·subst hij
    have : es[i]? = some e := by simpa using hi
    rw [if_pos rfl, if_pos rfl, this]; simp [hkey]
   ·rw [if_neg hij, if_neg hij]
  rw [hmod]
  refine .mp_of ?_ (h.set_obj (by simp) (by simp))
  have hborn : (es.modify i fun e => { e with key := enc k, val := v }).toList.map (·.born) = es.toList.map (·.born) := by
   rw [Array.toList_modify]
   apply List.ext_getElem?
   intro j
   simp only [List.getElem?_map, List.getElem?_modify]
   cases es.toList[j]? with
   | none => simp
   | some e => by_cases hij : i = j <;> simp [hij]
  refine ⟨by rw [hp, Array.toList_modify]; exact map_modify_eq v hm.1 hki', by rw [hborn]; exact hm.2.1, ?_, keys_put_nodup hm.2.2.2.1 k v, ?_⟩
  ·intro e' he'
   have : e'.born ∈ (es.modify i fun e => { e with key := enc k, val := v }).toList.map (·.born) := List.mem_map_of_mem he'
   rw [hborn] at this
   obtain ⟨e'', he'', hbb⟩ := List.mem_map.1 this
   rw [← hbb]; exact hm.2.2.1 e'' he''
  ·intro d hd
   rw [hp] at hd
   obtain ⟨d', hd', rfl⟩ := List.mem_map.1 hd
   by_cases ek : d'.1 = k
   ·rw [if_pos ek]
    have h1 := hm.2.2.2.2 d' hd'
    rw [ek] at h1; exact h1
   ·rw [if_neg ek]; exact hm.2.2.2.2 d' hd'
theorem run_range_none {t e : TypeId} (ht : P.underlying t = some (.map kt e)) (w : World) : (Instr.range t (.map none)).run P w = .ok (.pointer (some ⟨w.heap.size, 0, none⟩)) (w.alloc (.mapIter none 0 #[] 0)) := by
 simp [Instr.range, run_underlying ht]
theorem run_next_none {ty : TypeId} (h : w.heap[r]? = some (.mapIter none 0 #[] 0)) : (Instr.next (.pointer (some ⟨r, 0, none⟩)) false ty).run P w = .ok (.tuple #[.bool false]) w := by
 simp [Instr.next, run_getObj_iter h]
end
end Go.Sep
/- The program's table of locks: one key goes to who comes next: what becomes of memory. -/
namespace Go.Sep
open Go Go.RowKit
variable {w w0 : World} {L : List HProp} {T b o bh bl bb : Nat} {E : List (Int × (Value × List Int))} {t : Tbl} {P : Program} {kt mt ml e el : TypeId}
def tabY (T b o bh bl bb : Nat) (E : List (Int × (Value × List Int))) (k : Int) (v' : Value) (t : Tbl) (hold wait : List (Int × Int)) : HProp :=
 sep (pur (E.map (fun p => (p.1, p.2.2)) = t.line)) (sep (cells b o [.map (some bh), .map (some bl), .map (some bb)]) (sep (mp encI (fun _ => True) bh (ienc hold))
  (sep (mp encI (fun _ => True) bb (ienc wait)) (sep (mp encI (fun _ => True) bl (mput (E.map fun p => (p.1, p.2.1)) k v')) (all ((mdel E k).map (lrow T)))))))
theorem S.tabY_parts {k : Int} {v' : Value} {hold wait : List (Int × Int)} (h : S w0 w (tabY T b o bh bl bb E k v' t hold wait :: L)) : E.map (fun p => (p.1, p.2.2)) = t.line ∧
  S w0 w (cells b o [.map (some bh), .map (some bl), .map (some bb)] :: mp encI (fun _ => True) bh (ienc hold) :: mp encI (fun _ => True) bb (ienc wait) :: mp encI (fun _ => True) bl (mput (E.map fun p => (p.1, p.2.1)) k v') :: all ((mdel E k).map (lrow T)) :: L) := by
 obtain ⟨hp, h⟩ := h.sep_elim.pur_elim
 refine ⟨hp, h.conv ?_⟩
 simp only [all, sep_assoc]
theorem S.tabY_join {k : Int} {v' : Value} {hold wait : List (Int × Int)} (hp : E.map (fun p => (p.1, p.2.2)) = t.line)
  (h : S w0 w (cells b o [.map (some bh), .map (some bl), .map (some bb)] :: mp encI (fun _ => True) bh (ienc hold) :: mp encI (fun _ => True) bb (ienc wait) :: mp encI (fun _ => True) bl (mput (E.map fun p => (p.1, p.2.1)) k v') :: all ((mdel E k).map (lrow T)) :: L)) :
  S w0 w (tabY T b o bh bl bb E k v' t hold wait :: L) := by
 refine .sep_intro (.pur_intro hp (h.conv ?_))
 simp only [all, sep_assoc]
theorem S.tabY_see {k : Int} {v' : Value} {hold wait : List (Int × Int)} (h : S w0 w (tabY T b o bh bl bb E k v' t hold wait :: L)) : w.cell? ⟨b, o, none⟩ = some (.map (some bh)) ∧ w.cell? ⟨b, o + 1, none⟩ = some (.map (some bl)) ∧ w.cell? ⟨b, o + 2, none⟩ = some (.map (some bb)) := by
 obtain ⟨_, h⟩ := h.tabY_parts
 exact ⟨h.cells_cell 0 rfl, h.cells_cell 1 rfl, h.cells_cell 2 rfl⟩
theorem S.tab_assign2 (K : KeyOk P kt encI (fun _ => True)) (ht : P.underlying mt = some (.map kt e)) (hl : P.underlying ml = some (.map kt el)) {z zl : Value} (hz : ∀ w, (zeroValue e).run P w = .ok z w) (hzl : ∀ w, (zeroValue el).run P w = .ok zl w)
  {k : Int} (h : S w0 w (tabX T b o bh bl bb E k t :: L)) (x : Int) (v' : Value) :
  ∃ (u0 u1 : Value) (s0 s1 : Nat) (w1 w2 w3 w4 : World), (Instr.mapEntry mt (.map (some bh)) (encI k)).run P w = .ok (.tuple #[u0, .int .i64 (s0 : Int)]) w1 ∧ (Instr.entryStore mt (.map (some bh)) (.int .i64 (s0 : Int)) (encI x)).run P w1 = .ok () w2 ∧
   (Instr.mapEntry ml (.map (some bl)) (encI k)).run P w2 = .ok (.tuple #[u1, .int .i64 (s1 : Int)]) w3 ∧ (Instr.entryStore ml (.map (some bl)) (.int .i64 (s1 : Int)) v').run P w3 = .ok () w4 ∧
   (∀ a v, w.cell? a = some v → w1.cell? a = some v ∧ w2.cell? a = some v ∧ w3.cell? a = some v ∧ w4.cell? a = some v) ∧
   S w0 w4 (tabY T b o bh bl bb E k v' t (mput t.hold k x) t.wait :: L) := by
 obtain ⟨hp, h⟩ := h.tabX_parts
 obtain ⟨s0, w1, r1, h1, k1⟩ := h.swap.entry_find K ht (hz w) k trivial
 obtain ⟨w2, r2, h2, k2⟩ := h1.entry_store mt (encI x)
 obtain ⟨s1, w3, r3, h3, k3⟩ := h2.rot4.entry_find K hl (hzl w2) k trivial
 obtain ⟨w4, r4, h4, k4⟩ := h3.entry_store ml v'
 rw [mput_mput] at h4
 refine ⟨_, _, s0, s1, w1, w2, w3, w4, r1, r2, r3, r4, fun a v hc => ⟨k1 a v hc, k2 a v (k1 a v hc), k3 a v (k2 a v (k1 a v hc)), k4 a v (k3 a v (k2 a v (k1 a v hc)))⟩, S.tabY_join hp ?_⟩
 refine h4.conv ?_
 simp only [all]
 rw [mput_mput, ienc_put]
 rw [sep_left_comm (cells _ _ _) (mp _ _ bh _), sep_left_comm (mp _ _ bl _) (mp _ _ bh _), sep_left_comm (mp _ _ bl _) (cells _ _ _), sep_left_comm (mp _ _ bl _) (mp _ _ bb _)]
theorem S.tabY_wait_del (K : KeyOk P kt encI (fun _ => True)) {ty : TypeId} (ht : P.underlying mt = some (.map kt e)) {k : Int} {v' : Value} {hold wait : List (Int × Int)} (h : S w0 w (tabY T b o bh bl bb E k v' t hold wait :: L)) (x : Int) :
  ∃ w', (Builtin.delete_ #[mt, kt] ty #[.map (some bb), encI x]).run P w = .ok (.tuple #[]) w' ∧ S w0 w' (tabY T b o bh bl bb E k v' t hold (mdel wait x) :: L) := by
 obtain ⟨hp, h⟩ := h.tabY_parts
 obtain ⟨w', hr, h'⟩ := h.rot3.del K (ty := ty) ht x trivial
 rw [ienc_del] at h'
 exact ⟨w', hr, S.tabY_join hp h'.rot3.rot3⟩
theorem S.tabY_back {k : Int} {v' : Value} {l : List Int} {hold wait : List (Int × Int)} (h : S w0 w (sl T 1 v' l.length (icells l) :: tabY T b o bh bl bb E k v' t hold wait :: L)) :
  S w0 w (tabM T b o bh bl bb (mput E k (v', l)) ⟨hold, mput t.line k l, wait⟩ :: L) := by
 obtain ⟨hp, h⟩ := h.swap.tabY_parts
 have hm : mput (E.map fun p => (p.1, p.2.1)) k v' = (mput E k (v', l)).map fun p => (p.1, p.2.1) := mput_map (fun x : Value × List Int => x.1) E k (v', l)
 have hm2 : (mput E k (v', l)).map (fun p => (p.1, p.2.2)) = mput t.line k l := by rw [← hp]; exact (mput_map (fun x : Value × List Int => x.2) E k (v', l)).symm
 have hn : (E.map (·.1)).Nodup := by
  have h1 := h.rot4.nodup
  rw [hm, List.map_map] at h1
  have h2 : (mput E k (v', l)).map (·.1) = if (mget E k).isSome then E.map (·.1) else E.map (·.1) ++ [k] := keys_put E k (v', l)
  have h3 : ((mput E k (v', l)).map (·.1)).Nodup := by simpa [Function.comp_def] using h1
  rw [h2] at h3
  split at h3
  ·exact h3
  ·exact (List.nodup_append.1 h3).1
 rw [hm] at h
 refine S.tab_join (t := ⟨hold, mput t.line k l, wait⟩) hm2 ?_
 refine h.conv ?_
 have hq := (perm_put hn k (v', l)).map (lrow T)
 simp only [all]
 rw [all_perm hq]
 simp only [List.map_cons, all, lrow]
 rw [sep_assoc, sep_left_comm (all ((mdel E k).map _))]
end Go.Sep
/- The program's table of locks: who lets go. -/
namespace Go.Proofs.YtmfngjclccehaaaGreatDoor
open Go Go.RowKit Go.Sep
theorem strikeT_none {t : Tbl} {tx : Int} (h : mget t.wait tx = none) : strikeT t tx = t := by unfold strikeT; rw [h]
theorem strikeT_some {t : Tbl} {tx k : Int} (h : mget t.wait tx = some k) : strikeT t tx = { t with wait := mdel t.wait tx, line := mput t.line k (strike (lineAt t k) tx) } := by unfold strikeT; rw [h]
def hk (tx : Int) (dn : List (Int × Int)) : List Int := (dn.filter fun p => decide (p.2 = tx)).map (·.1)
theorem hk_snoc (tx : Int) (dn : List (Int × Int)) (p : Int × Int) : hk tx (dn ++ [p]) = if p.2 = tx then hk tx dn ++ [p.1] else hk tx dn := by
 unfold hk; rw [List.filter_append, List.map_append]; by_cases h : p.2 = tx <;> simp [h]
theorem nodup_le {α : Type} : ∀ {l m : List α}, l.Nodup → (∀ x ∈ l, x ∈ m) → l.length ≤ m.length
 | [], _, _, _ => Nat.zero_le _
 | a :: l, m, hn, hs => by
  obtain ⟨m1, m2, rfl⟩ := List.append_of_mem (hs a (by simp))
  rw [List.nodup_cons] at hn
  have := nodup_le (l := l) (m := m1 ++ m2) hn.2 (fun x hx => by
   have h1 := hs x (by simp [hx])
   have hne : x ≠ a := fun e => hn.1 (by rw [← e]; exact hx)
   simp only [List.mem_append, List.mem_cons] at h1 ⊢
   rcases h1 with h | h | h
   ·exact .inl h
   ·exact absurd h hne
   ·exact .inr h)
  simp only [List.length_append, List.length_cons] at this ⊢; omega
set_option maxRecDepth 40000 in
set_option maxHeartbeats 8000000 in
theorem tdrop_made (w0 w : World) (b o bh bl bb : Nat) (E : List (Int × (Value × List Int))) (t : Tbl) (tx : Int) (L : List HProp) (hs : S w0 w (tabM 3 b o bh bl bb E t :: L))
  (hb : ∀ k, (lineAt t k).length ≤ 1000000) (hh : t.hold.length ≤ 1000000) :
  Calls Tryz.prog 87 #[.pointer (some ⟨b, o, none⟩), .int .i64 tx] w fun e w' => ∃ v', e = .returned v' ∧
   S w0 w' (sl 101 2 v' (tbDrop t tx).2.length (pcells (tbDrop t tx).2) :: tabP 3 b o (tbDrop t tx).1 :: L) := by
 have hs1 := hs.alloc #[.int .i64 tx] 3
 obtain ⟨c0, c1, c2, m0, m2, m1⟩ := hs1.tail.tab_see
 have ct := hs1.blk_cell 0 rfl
 obtain ⟨_, _, _, _, m2d, _⟩ := hs1.drew.tail.tab_see
 have l2 := Tryz.look2 m2d tx
 clear m2d
 have hw : mget t.wait tx = if (mget t.wait tx).isSome then some ((mget t.wait tx).getD 0) else none := by cases mget t.wait tx <;> rfl
 generalize (mget t.wait tx).isSome = okb at l2 hw
 generalize (mget t.wait tx).getD 0 = k0 at l2 hw
 have H1 := hid hs1; have HB := hid hb; have HH := hid hh; have HW := hid hw
 clear hs hs1 hb hh hw m0 m1 m2
 go_enter Tryz.func87, Tryz.ntmps87
 go_wp2_with fail
 go_region
 go_upto_if 23 with fail
 go_cut [] (fun wx => ∃ E', S w0 wx (blk w.heap.size 3 [.int .i64 tx] :: tabM 3 b o bh bl bb E' (strikeT t tx) :: L))
 case first =>
  cases okb with
  | false =>
   have hw := HW.out
   rw [if_neg (by simp)] at hw
   go_wp2_with fail
   go_meet
   exact ⟨E, by rw [strikeT_none hw]; exact H1.out.drew⟩
  | true =>
   have hw := HW.out
   rw [if_pos rfl] at hw
   obtain ⟨w2, u2, hs2⟩ := H1.out.drew.drew.swap.tab_wait_del Tryz.keyInt (ty := 0) Tryz.underlying53 tx
   simp only [Sep.encI] at u2
   obtain ⟨hp, _⟩ := hs2.tab_parts
   have hx3 := line_of hp k0
   have hk := hs2.drew.tab_line k0
   have hbl := HB.out k0
   have hsee := hk.swap.tabX_see
   have lL := Tryz.lookL hsee.2.2.2.2.2 k0
   have d1 := hsee.2.1
   have ct2 := hk.rot3.blk_cell 0 rfl
   obtain ⟨al, cl, hvl, _, _, _⟩ := hk.sl_val
   have hk2 := hk.rot3.swap
   have hxl : (lineOf E k0).2 = lineAt t k0 := hx3
   rw [hvl] at lL hk2
   rw [hxl] at lL hk2
   have hst := strikeT_some hw
   have H2 := hid hk2; have HS := hid hst
   clear hs2 hk hk2 hsee hx3 hvl hxl hp hst hw HW
   go_wp2_with fail
   go_region
   go_wp2_with fail
   go_region_with (go_at_call 101; refine (delete1_any w0 _ al cl (lineAt t k0) tx w.heap.size _ H2.out hbl).mono ?_; rintro e w3 ⟨v3, rfl, hs3⟩; obtain ⟨_, e1, _⟩ := hs3.rot3.tabX_see; obtain ⟨w4, u4, hs4⟩ := S.tabX_put Tryz.keyInt Tryz.underlying62 (k := k0) (v := v3) (l := strike (lineAt t k0) tx) (hs3.rot3.swap); simp only [Sep.encI] at u4; have H4 := hid hs4; clear hs3 hs4)
   all_goals
    go_wp2_with fail
    go_meet
    exact ⟨_, by rw [HS.out]; exact H4.out.swap⟩
 case rest =>
  obtain ⟨E1, hsx⟩ := hcut
  have hth : (strikeT t tx).hold = t.hold := strikeT_hold t tx
  have hhd : holders (strikeT t tx) tx = holders t tx := by unfold holders; rw [hth]
  have hlb : ∀ k, (lineAt (strikeT t tx) k).length ≤ 1000000 := by
   intro k
   unfold strikeT
   cases mget t.wait tx with
   | none => exact HB.out k
   | some k1 =>
    unfold lineAt
    show ((mget (mput t.line k1 _) k).getD []).length ≤ _
    rw [mget_put]
    split
    ·exact Nat.le_trans (strike_le _ _) (HB.out k1)
    ·exact HB.out k
  have hd : tbDrop t tx = (sortI (holders t tx)).foldl dropStep (strikeT t tx, []) := by unfold tbDrop; rw [hhd]
  clear c0 c1 c2 ct l2 H1 HW HB
  have HLB := hid hlb
  clear hlb
  have hh2 : (strikeT t tx).hold.length ≤ 1000000 := by rw [hth]; exact HH.out
  clear hth HH hhd
  have hhd2 : holders (strikeT t tx) tx = holders t tx := by unfold holders; rw [strikeT_hold]
  generalize holders t tx = ks at hd hhd2
  have HHD := hid hhd2; have HH2 := hid hh2; have HD := hid hd
  clear hh2 hhd2 hd
  generalize strikeT t tx = t1 at hsx HHD HLB HH2 HD
  obtain ⟨hp, hq⟩ := hsx.swap.tab_parts
  obtain ⟨c0, _, _, _, _, _⟩ := hsx.swap.tab_see
  have ct := hsx.blk_cell 0 rfl
  obtain ⟨w3, ur, hs3⟩ := hq.swap.range (P := Tryz.prog) Tryz.underlying53
  have H3 := hid hs3; have HP := hid hp
  clear hsx hp hq hs3
  go_wp2_with fail
  go_loopg [7] (t1.hold.length) (fun n kv wr => ∃ dn : List (Int × Int), t1.hold.length ≤ dn.length + n ∧ S w0 wr (sl 3 1 kv (hk tx dn).length (icells (hk tx dn)) :: ranging Sep.encI (fun _ => True) bh wc.heap.size (ienc t1.hold) (ienc dn) :: cells b o [.map (some bh), .map (some bl), .map (some bb)] :: mp Sep.encI (fun _ => True) bb (ienc t1.wait) :: mp Sep.encI (fun _ => True) bl (E1.map fun p => (p.1, p.2.1)) :: all (E1.map (lrow 3)) :: blk w.heap.size 3 [.int .i64 tx] :: L))
  case atStart => exact ⟨[], by simp, H3.out.sl_nil⟩
  case round =>
   obtain ⟨dn, hn, hsr⟩ := hrel
   rcases hsr.swap.next Tryz.keyInt (ty := 0) with ⟨d, w4, hd1, hd2, hr, hs4⟩ | ⟨hall, hr⟩
   ·obtain ⟨p, hp, rfl⟩ := ienc_mem hd1
    have hent := hs4.entry (P := Tryz.prog)
    rw [ienc_snoc] at hs4
    simp only [Sep.encI] at hr hent
    have hlen : (dn ++ [p]).length ≤ t1.hold.length := by
     have h1 := hs4.ranging_sub
     have h2 := nodup_le h1.1 h1.2.1
     simpa [ienc] using h2
    have ct4 := (hs4.of_mem (A := blk w.heap.size 3 [.int .i64 tx]) (by simp)).blk_cell 0 rfl
    rw [List.length_append, List.length_singleton] at hlen
    have hh2 := HH2.out
    have hkl : (hk tx dn).length ≤ dn.length := by unfold hk; rw [List.length_map]; exact List.length_filter_le _ _
    by_cases hpx : p.2 = tx
    ·have hbe : (p.2 == tx) = true := by simp [hpx]
     obtain ⟨al, cl, rfl, _, _, _⟩ := hs4.swap.sl_val
     have hs5 := (hs4.swap.alloc #[.int .i64 p.1] 3)
     have hn5 := news_blk hs5
     have hkk : hk tx (dn ++ [p]) = hk tx dn ++ [p.1] := by rw [hk_snoc, if_pos hpx]
     have H5 := hid hs5.tail; have HN := hid hn5; have HK := hid hkk
     obtain ⟨i0, hi0, hz0, hz1, hz2⟩ := info_parts Tryz.info3
     have hil := icells_length (hk tx dn)
     have HL := hid hil
     clear hsr hs4 hs5 hn5 hkk hp hd1 hd2 hil hpx
     go_wp2_with (at_builtin; refine wpList_append rfl (.tmp 55) (.tmp 57) 48 rfl 3 i0 _ 1 8 Tryz.underlying48 hi0 hz0 hz1 hz2 rfl (by decide) H5.out rfl (some ⟨w4.heap.size, 0, none⟩) 1 1 [.int .i64 p.1] rfl rfl HN.out (by simp [Value.oneCell']) (by unfold maxLen; omega) (by omega) ?_; intro v1 w5 hs6; have H6 := hid hs6; clear hs6)
     go_roundg (gk - 1)
     case measure => omega
     case rel => exact ⟨dn ++ [p], by rw [List.length_append, List.length_singleton]; omega, by rw [HK.out, List.length_append, icells_append]; exact H6.out⟩
    ·have hbe : (p.2 == tx) = false := by simp [hpx]
     have hkk : hk tx (dn ++ [p]) = hk tx dn := by rw [hk_snoc, if_neg hpx]
     have H5 := hid hs4.swap; have HK := hid hkk
     clear hsr hs4 hkk hp hd1 hd2 hpx
     go_wp2_with fail
     go_roundg (gk - 1)
     case measure => omega
     case rel => exact ⟨dn ++ [p], by rw [List.length_append, List.length_singleton]; omega, by rw [HK.out]; exact H5.out⟩
   ·obtain ⟨hpd, hs4⟩ := hsr.swap.range_over hall
    have hpk : (hk tx dn).Perm ks := by rw [← HHD.out]; exact ((ienc_perm hpd).filter _).map _
    have hkl : (hk tx dn).length ≤ t1.hold.length := by
     have h1 := (ienc_perm hpd).length_eq
     have h2 : (hk tx dn).length ≤ dn.length := by unfold hk; rw [List.length_map]; exact List.length_filter_le _ _
     omega
    have hh2 := HH2.out
    generalize hk tx dn = kl at hpk hkl hs4
    have hse : sortI kl = sortI ks := sortI_of ((sortI_perm kl).trans hpk) (sortI_sorted kl)
    have hs5 := hs4.conv (M := cells b o [.map (some bh), .map (some bl), .map (some bb)] :: mp Sep.encI (fun _ => True) bh (ienc t1.hold) :: mp Sep.encI (fun _ => True) bb (ienc t1.wait) :: mp Sep.encI (fun _ => True) bl (E1.map fun p => (p.1, p.2.1)) :: all (E1.map (lrow 3)) :: sl 3 1 u7 kl.length (icells kl) :: blk w.heap.size 3 [.int .i64 tx] :: L) (by simp only [all]; ac_rfl)
    have hT := (S.tab_join (t := t1) HP.out hs5).swap
    have hkb : kl.length ≤ 4000000 := by omega
    have hkq : kl.length = (sortI ks).length := by rw [← hse, sortI_len]
    obtain ⟨ak, ck, rfl, hcap, hcap2, _⟩ := hT.sl_val
    unfold maxLen at hcap2
    have HT := hid hT; have HSE := hid hse; have HKQ := hid hkq
    clear hsr hs4 hs5 hT hse hpk hpd hall hkq
    go_wp2_with fail
    with_reducible refine (sort_ints w0 wr _ kl _ HT.out hkb).mono ?_
    rintro e w5 ⟨rfl, hs6⟩
    rw [HSE.out] at hs6
    have hkq := HKQ.out
    rw [hkq] at hs6 hkl hcap ⊢
    generalize sortI ks = ss at hs6 hkl HD hcap
    clear hkq HKQ HSE HT hkb
    have H6 := hid hs6
    clear hs6
    go_wp2_with fail
    have hss : ss.length ≤ 1000000 := by omega
    clear hkl hh2 hr
    have hs7 : S w0 w5 (sl 101 2 (.slice none 0 0) ([] : List (Int × Int)).length (pcells []) :: tabM 3 b o bh bl bb E1 t1 :: sl 3 1 (.slice ak ss.length ck) ss.length (icells ss) :: L) :=
     (H6.out.conv (M := blk w.heap.size 3 [.int .i64 tx] :: tabM 3 b o bh bl bb E1 t1 :: sl 3 1 (.slice ak ss.length ck) ss.length (icells ss) :: L) (by simp only [all]; ac_rfl)).tail.sl_nil
    have H7 := hid hs7
    clear hs7 H6
    go_loopw [10, 63] (fun ov iv wr => ∃ (i : Nat) (E2 : List (Int × (Value × List Int))), i ≤ ss.length ∧ iv = .int .i64 i ∧ ((ss.take i).foldl dropStep (t1, [])).2.length ≤ i ∧ S w0 wr (sl 101 2 ov ((ss.take i).foldl dropStep (t1, [])).2.length (pcells ((ss.take i).foldl dropStep (t1, [])).2) :: tabM 3 b o bh bl bb E2 ((ss.take i).foldl dropStep (t1, [])).1 :: sl 3 1 (.slice ak ss.length ck) ss.length (icells ss) :: L)) (fun _ iv _ => ss.length - (intOf iv).toNat)
    case atStart => exact ⟨0, E1, Nat.zero_le _, rfl, Nat.le_refl _, H7.out⟩
    case round =>
     obtain ⟨i, E2, hi, rfl, hol, hsr⟩ := hrel
     by_cases hlt : i < ss.length
     ·have hp : ss[i]? = some ss[i] := by simp [hlt]
      generalize ss[i] = k at hp
      have hst : (ss.take (i + 1)).foldl dropStep (t1, []) = dropStep ((ss.take i).foldl dropStep (t1, [])) k := by rw [take_succ_get hp, List.foldl_append]; rfl
      have HST := hid hst
      clear hst
      generalize (ss.take i).foldl dropStep (t1, []) = st at hol hsr HST
      obtain ⟨T2, out⟩ := st
      simp only at hol hsr
      obtain ⟨gk, ok, rfl, _, ck0⟩ := hsr.rot3.sl_int hp
      obtain ⟨hp2, _⟩ := hsr.swap.tab_parts
      have hln := line_of hp2 k
      have hsee := hsr.swap.tab_see
      have lL := Tryz.lookL hsee.2.2.2.2.2 k
      have c1 := hsee.2.1
      have hkl := hsr.swap.tab_line k
      obtain ⟨al, cl, hvl, hcl, hcl2, _⟩ := hkl.sl_val
      unfold maxLen at hcl2
      have hlk : (lineOf E2 k).2 = lineAt T2 k := hln
      rw [hvl] at lL hkl
      rw [hlk] at lL hkl hcl
      clear hp hsee hln hvl hlk hp2
      cases hq : lineAt T2 k with
      | nil =>
       rw [hq] at lL hcl
       simp only [List.length_nil] at lL
       obtain ⟨w6, u6, hs6⟩ := hsr.swap.tab_hold_del Tryz.keyInt (ty := 0) Tryz.underlying53 k
       simp only [Sep.encI] at u6
       have c0 := hsr.swap.tab_see.1
       have hds : dropStep (T2, out) k = ({ T2 with hold := mdel T2.hold k }, out) := by unfold dropStep; rw [hq]
       have H8 := hid hs6.swap; have HDS := hid hds
       clear hsr hkl hs6 hq hds
       go_wp2_with fail
       go_roundw
       case rel => exact ⟨i + 1, E2, by omega, by go_num, by rw [HST.out, HDS.out]; exact Nat.le_succ_of_le hol, by rw [HST.out, HDS.out]; exact H8.out⟩
       case measure => simp [intOf]; omega
      | cons x l =>
       rw [hq] at lL hcl hkl
       simp only [List.length_cons] at lL hcl hkl
       have hds : dropStep (T2, out) k = ({ hold := mput T2.hold k x, line := mput T2.line k l, wait := mdel T2.wait x }, out ++ [(k, x)]) := by unfold dropStep; rw [hq]
       obtain ⟨gx, ox, rfl, _, dx⟩ := hkl.sl_int (l := x :: l) (i := 0) (x := x) rfl
       rw [Nat.add_zero] at dx
       obtain ⟨av, hav⟩ : ∃ av : Option Addr, av = (if cl = 1 then some ⟨gx, ox, none⟩ else some ⟨gx, ox + 1, none⟩) := ⟨_, rfl⟩
       obtain ⟨u0, u1, s0, s1, x1, x2, x3, x4, r1, r2, r3, r4, keep, hx4⟩ := hkl.drew.swap.tab_assign2 Tryz.keyInt Tryz.underlying53 Tryz.underlying62 Tryz.zero_int Tryz.zero_ints x (.slice av l.length (cl - 1))
       simp only [Sep.encI] at r1 r2 r3
       have hs0 := hkl.drew.swap.tabX_see
       obtain ⟨a1, a2, a3, a4⟩ := keep _ _ hs0.1
       obtain ⟨b1, b2, b3, b4⟩ := keep _ _ hs0.2.1
       obtain ⟨d1, d2, d3, d4⟩ := keep _ _ (show (wr.drew).cell? ⟨gx, ox, none⟩ = _ from dx)
       have c0 := hsr.swap.tab_see.1
       have H8 := hid hx4; have HDS := hid hds
       clear hsr hkl keep hs0 hx4 hq hds
       obtain ⟨x5, r5, hx5⟩ := H8.out.drew.tabY_wait_del Tryz.keyInt (ty := 0) Tryz.underlying53 x
       simp only [Sep.encI] at r5
       have c2 := H8.out.drew.tabY_see.2.2
       have d5 := (hx5.swap.sl_int (l := x :: l) (i := 0) (x := x) rfl)
       obtain ⟨_, _, hge, _, d5⟩ := d5
       simp only [Option.some.injEq, Addr.mk.injEq] at hge
       obtain ⟨rfl, rfl, -⟩ := hge
       rw [Nat.add_zero] at d5
       have hx9 := S.sl_tail1 hx5.swap
       rw [← hav] at hx9
       have hx6 := S.tabY_back (l := l) hx9
       obtain ⟨ao, co, rfl, _, _, _⟩ := hx6.swap.sl_val
       have hx7 := hx6.swap.alloc #[.int .i64 k, .int .i64 x] 101
       have hn7 := news_blk hx7
       have hx8 := hx7.tail
       have H9 := hid hx8; have HN := hid hn7
       obtain ⟨i0, hi0, hz0, hz1, hz2⟩ := info_parts Tryz.info101
       clear hx5 hx6 hx7 hx8 hx9 hn7 H8
       by_cases hc1 : cl = 1
       case' pos =>
        subst hc1
        obtain rfl : l = [] := List.eq_nil_of_length_eq_zero (by omega)
        rw [if_pos rfl] at hav
        subst hav
        simp only [List.length_nil, Nat.zero_add, Nat.sub_self] at lL r4
       case' neg => rw [if_neg hc1] at hav; subst hav
       all_goals
        go_wp2_with fail
        go_region
        go_wp2_with fail
        go_region
        go_wp2_with (at_builtin; refine wpList_append rfl (.tmp 107) (.tmp 113) 22 rfl 101 i0 (.agg #[.int .i64 0, .int .i64 0]) 2 16 Tryz.underlying22 hi0 hz0 hz1 hz2 rfl (by decide) H9.out rfl (some ⟨x5.heap.size, 0, none⟩) 1 1 [.int .i64 k, .int .i64 x] rfl rfl HN.out (by simp [Value.oneCell']) (by unfold maxLen; omega) (by omega) ?_; intro v1 w5 hs6; have H6 := hid hs6; clear hs6)
        go_roundw
        case rel =>
         refine ⟨i + 1, ?_, by omega, by go_num, ?_, ?_⟩
         rotate_left
         ·rw [HST.out, HDS.out, List.length_append]; exact Nat.succ_le_succ hol
         ·rw [HST.out, HDS.out, List.length_append, pcells_append]; exact H6.out
        case measure => simp [intOf]; omega
     ·obtain rfl : i = ss.length := by omega
      rw [List.take_length, ← HD.out] at hsr
      have H9 := hid hsr
      clear hsr hol H7
      go_wp2_with fail
      go_ret
      exact ⟨_, rfl, (H9.out.rot3.tail.conv (M := sl 101 2 u10 (tbDrop t tx).2.length (pcells (tbDrop t tx).2) :: tabM 3 b o bh bl bb E2 (tbDrop t tx).1 :: L) (by simp only [all])).swap.tab_made.swap⟩
end Go.Proofs.YtmfngjclccehaaaGreatDoor
/- The program's table of locks: who lets go, of whatever table; the fact of the law. -/
namespace Go.Proofs.YtmfngjclccehaaaGreatDoor
open Go Go.RowKit Go.Sep
set_option maxRecDepth 40000 in
theorem tdrop_zero (w0 w : World) (b o : Nat) (tx : Int) (L : List HProp) (hs : S w0 w (cells b o [.map none, .map none, .map none] :: L)) :
  Calls Tryz.prog 87 #[.pointer (some ⟨b, o, none⟩), .int .i64 tx] w fun e w' => e = .returned (.slice none 0 0) ∧ S w0 w' (cells b o [.map none, .map none, .map none] :: L) := by
 have hs1 := hs.alloc #[.int .i64 tx] 3
 have c0 := hs1.swap.cells_cell 0 rfl
 have c1 := hs1.swap.cells_cell 1 rfl
 have c2 := hs1.swap.cells_cell 2 rfl
 rw [Nat.add_zero] at c0
 have ct := hs1.blk_cell 0 rfl
 have l2 := Tryz.look2n (w.alloc (.cells #[.int .i64 tx] 3)).drew tx
 have ur := run_range_none (P := Tryz.prog) Tryz.underlying53 (w.alloc (.cells #[.int .i64 tx] 3)).drew
 have hs2 := (hs1.alloc_obj (.mapIter none 0 #[] 0) (by simp)).drew
 have un := run_next_none (P := Tryz.prog) (ty := 0) hs2.obj
 have e1 : (w.alloc (.cells #[.int .i64 tx] 3)).heap.size = w.heap.size + 1 := by simp
 have e2 : (w.alloc (.cells #[.int .i64 tx] 3)).drew.heap.size = w.heap.size + 1 := by simp
 rw [e1] at un
 rw [e2] at ur
 have H1 := hid hs2
 clear hs hs1 hs2 e1 e2
 go_enter Tryz.func87, Tryz.ntmps87
 go_wp2_with fail
 go_region
 go_wp2_with fail
 refine wp_loop_rounds 1 ?_
 rw [rounds_succ]
 go_wp2_with fail
 with_reducible refine (Tryz.slices_Sort_int_none none 0 _).mono ?_
 rintro e w5 ⟨rfl, rfl⟩
 go_wp2_with fail
 refine wp_loop_rounds 1 ?_
 rw [rounds_succ]
 go_wp2_with fail
 go_ret
 exact ⟨rfl, H1.out.tail.tail⟩
theorem tdrop_any (w0 w : World) (b o : Nat) (t : Tbl) (tx : Int) (L : List HProp) (hs : S w0 w (tabP 3 b o t :: L)) (hb : ∀ k, (lineAt t k).length ≤ 1000000) (hh : t.hold.length ≤ 1000000) :
  Calls Tryz.prog 87 #[.pointer (some ⟨b, o, none⟩), .int .i64 tx] w fun e w' => ∃ v', e = .returned v' ∧
   S w0 w' (sl 101 2 v' (tbDrop t tx).2.length (pcells (tbDrop t tx).2) :: tabP 3 b o (tbDrop t tx).1 :: L) := by
 rcases hs.tab_cases with h0 | ⟨bh, bl, bb, E, h⟩
 ·obtain ⟨rfl, h1⟩ := h0.tab0_cells
  refine (tdrop_zero w0 w b o tx L h1).mono fun e w' ⟨he, h2⟩ => ⟨_, he, ?_⟩
  have e1 : tbDrop ⟨[], [], []⟩ tx = (⟨[], [], []⟩, []) := by simp [tbDrop, strikeT, mget_nil, holders, sortI]
  rw [e1]
  exact h2.tab_zero.sl_nil
 ·exact tdrop_made w0 w b o bh bl bb E t tx L h hb hh
end Go.Proofs.YtmfngjclccehaaaGreatDoor
/- The program's engine: the small readers. -/
namespace Go.Proofs.YtmfngjclccehaaaGreatDoor
open Go Go.RowKit Go.Sep
theorem strict_any (p : Nat) (level state : Int) (w : World) (h0 : w.cell? ⟨p, 0, none⟩ = some (.int .i64 level)) (h1 : w.cell? ⟨p, 1, none⟩ = some (.int .i64 state)) :
  Calls Tryz.prog 82 #[.pointer (some ⟨p, 0, none⟩)] w fun e w' => e = .returned (.bool (decide (level = 2) && decide (state ≠ 3))) ∧ w = w' := by
 by_cases hl : level = 2
 ·subst hl
  by_cases hs : state = 3
  ·subst hs
   go_enter Tryz.func82, Tryz.ntmps82
   go_wp2
   go_ret
   exact ⟨rfl, rfl⟩
  ·have hb : (state != 3) = true := by simpa using hs
   have HF := hid hs
   clear hs
   go_enter Tryz.func82, Tryz.ntmps82
   go_wp2
   go_ret
   exact ⟨by have := HF.out; show Ending.returned (.bool true) = _; simp [this], rfl⟩
 ·have hb : (level == 2) = false := by simpa using hl
  have HF := hid (show (decide (level = 2) && decide (state ≠ 3)) = false by simp [hl])
  clear hl
  go_enter Tryz.func82, Tryz.ntmps82
  go_wp2
  go_ret
  exact ⟨by rw [HF.out]; rfl, rfl⟩
theorem there_any (p : Nat) (state : Int) (w : World) (h1 : w.cell? ⟨p, 1, none⟩ = some (.int .i64 state)) :
  Calls Tryz.prog 90 #[.pointer (some ⟨p, 0, none⟩)] w fun e w' => e = .returned (.bool (state != 3)) ∧ w = w' := by
 go_enter Tryz.func90, Tryz.ntmps90
 go_wp2
 go_ret
 exact ⟨rfl, rfl⟩
def PtrsAt (w : World) (a : Option Addr) (bs : List Nat) (l : List Nat) : Prop := ∀ j p, l[j]? = some p → ∃ g o, a = some ⟨g, o, none⟩ ∧ w.cell? ⟨g, o + j, none⟩ = some (ptr bs p)
def IxPost (w : World) (st : Nat → Int) (l : List Nat) (e : Ending) (w' : World) : Prop := ∃ r : Int, e = .returned (.int .i64 r) ∧ -1 ≤ r ∧ (decide (0 ≤ r) = l.any fun p => decide (st p ≠ 3)) ∧ w = w'
set_option maxRecDepth 20000 in
theorem indexT_any (w : World) (a : Option Addr) (cap : Nat) (bs l : List Nat) (st : Nat → Int) (hl : PtrsAt w a bs l) (hs : ∀ p ∈ l, w.cell? ⟨blkOf bs p, 1, none⟩ = some (.int .i64 (st p))) (hb : l.length ≤ cap) (hc : cap ≤ maxLen) :
  Calls Tryz.prog 103 #[.slice a l.length cap, .func (.func 90) #[] #[]] w (IxPost w st l) := by
 unfold maxLen at hc
 have HL := hid hl; have HS := hid hs
 clear hl hs
 go_enter Tryz.func103, Tryz.ntmps103
 go_wp2_with fail
 go_loopw [8] (fun x wr => ∃ i : Nat, i ≤ l.length ∧ x = .int .i64 i ∧ Hid (∀ p ∈ l.take i, st p = 3) ∧ wr = w) (fun x _ => l.length - (intOf x).toNat)
 case atStart => exact ⟨0, Nat.zero_le _, rfl, hid (by simp), rfl⟩
 case round =>
  obtain ⟨i, hi, rfl, hno, rfl⟩ := hrel
  by_cases hlt : i < l.length
  ·have hp : l[i]? = some l[i] := by simp [hlt]
   generalize l[i] = p at hp
   obtain ⟨g, og, rfl, c1⟩ := HL.out _ _ hp
   have c2 := HS.out p (List.mem_of_getElem? hp)
   unfold ptr at c1
   have HP := hid hp
   clear hp
   by_cases hx : st p = 3
   ·have hn : Hid (∀ q ∈ l.take (i + 1), st q = 3) := hid (by
     rw [take_succ_get HP.out]
     intro q hq
     rcases List.mem_append.1 hq with hq | hq
     ·exact hno.out q hq
     ·simp only [List.mem_singleton] at hq; subst hq; exact hx)
    have hbe : (st p != 3) = false := by simp [hx]
    clear hx hno
    go_wp2_with (go_at_call 90; refine (there_any _ _ _ c2).mono ?_; rintro e w' ⟨rfl, rfl⟩)
    go_roundw
    case rel => exact ⟨i + 1, by omega, by go_num, hn, trivial⟩
    case measure => simp [intOf]; omega
   ·have hbe : (st p != 3) = true := by simpa using hx
    have HF := hid (show (l.any fun p => decide (st p ≠ 3)) = true by
     rw [List.any_eq_true]; exact ⟨p, List.mem_of_getElem? HP.out, by simpa using hx⟩)
    clear hx hno
    go_wp2_with (go_at_call 90; refine (there_any _ _ _ c2).mono ?_; rintro e w' ⟨rfl, rfl⟩)
    go_ret
    exact ⟨i, rfl, by omega, by rw [HF.out]; simp, rfl⟩
  ·have HF := hid (show (l.any fun p => decide (st p ≠ 3)) = false by
    rw [List.any_eq_false]
    intro p hp
    have := hno.out p (by rw [List.take_of_length_le (by omega)]; exact hp)
    simp [this])
   clear hno
   go_wp2_with fail
   go_ret
   exact ⟨-1, rfl, by omega, by rw [HF.out]; simp, rfl⟩
theorem containsT_any (w : World) (a : Option Addr) (cap : Nat) (bs l : List Nat) (st : Nat → Int) (hl : PtrsAt w a bs l) (hs : ∀ p ∈ l, w.cell? ⟨blkOf bs p, 1, none⟩ = some (.int .i64 (st p))) (hb : l.length ≤ cap) (hc : cap ≤ maxLen) :
  Calls Tryz.prog 91 #[.slice a l.length cap, .func (.func 90) #[] #[]] w fun e w' => e = .returned (.bool (l.any fun p => decide (st p ≠ 3))) ∧ w = w' := by
 have HC := hid (indexT_any w a cap bs l st hl hs hb hc)
 clear hl hs
 go_enter Tryz.func91, Tryz.ntmps91
 go_wp2_with fail
 with_reducible refine HC.out.mono ?_
 rintro e w' ⟨r, rfl, hr, hd, rfl⟩
 have HD := hid hd
 clear hd
 go_wp2_with fail
 go_ret
 exact ⟨by rw [← HD.out]; rfl, rfl⟩
theorem middle_any (w : World) (p : Nat) (v : TxV) (x : Tx) (bs : List Nat) (st : Nat → Int) (hx : TxC w bs p v x) (af ag : Option Addr) (cf cg : Nat) (hf : v.fv = .slice af x.fore.length cf) (hg : v.av = .slice ag x.aft.length cg) (hlf : PtrsAt w af bs x.fore) (hlg : PtrsAt w ag bs x.aft)
  (hs : ∀ p ∈ x.fore ++ x.aft, w.cell? ⟨blkOf bs p, 1, none⟩ = some (.int .i64 (st p))) (hb1 : x.fore.length ≤ cf) (hc1 : cf ≤ maxLen) (hb2 : x.aft.length ≤ cg) (hc2 : cg ≤ maxLen) :
  Calls Tryz.prog 67 #[.pointer (some ⟨p, 0, none⟩)] w fun e w' => e = .returned (.bool ((x.fore.any fun p => decide (st p ≠ 3)) && (x.aft.any fun p => decide (st p ≠ 3)))) ∧ w = w' := by
 have h1 := containsT_any w af cf bs x.fore st hlf (fun p hp => hs p (by simp [hp])) hb1 hc1
 have h2 := containsT_any w ag cg bs x.aft st hlg (fun p hp => hs p (by simp [hp])) hb2 hc2
 have c9 := hx.fore
 have c10 := hx.aft
 rw [hf] at c9
 rw [hg] at c10
 generalize (x.fore.any fun p => decide (st p ≠ 3)) = b1 at h1 ⊢
 generalize (x.aft.any fun p => decide (st p ≠ 3)) = b2 at h2 ⊢
 have H1 := hid h1; have H2 := hid h2
 clear h1 h2 hx hf hg hlf hlg hs hb1 hc1 hb2 hc2
 cases b1
 ·go_enter Tryz.func67, Tryz.ntmps67
  go_wp2_with fail
  with_reducible refine H1.out.mono ?_
  rintro e w' ⟨rfl, rfl⟩
  go_wp2_with fail
  go_ret
  exact ⟨rfl, rfl⟩
 ·go_enter Tryz.func67, Tryz.ntmps67
  go_wp2_with fail
  with_reducible refine H1.out.mono ?_
  rintro e w' ⟨rfl, rfl⟩
  go_wp2_with fail
  with_reducible refine H2.out.mono ?_
  rintro e w' ⟨rfl, rfl⟩
  go_wp2_with fail
  go_ret
  exact ⟨by simp, rfl⟩
theorem middle_eng (w0 w : World) (b : Nat) (bs : List Nat) (k : EngV) (e : Eng) (i : Nat) (L : List HProp) (hs : S w0 w (engO b bs k e :: L)) (hi : i < e.txs.length) (hr : ∀ j ∈ (e.tx i).fore ++ (e.tx i).aft, j < e.txs.length) :
  Calls Tryz.prog 67 #[.pointer (some ⟨blkOf bs i, 0, none⟩)] w fun r w' => r = .returned (.bool (e.middle i)) ∧ w = w' := by
 have hx := (hs.eng_txc hi).2
 obtain ⟨af, cf, h1, h2, h3, h4⟩ := hx.fs
 obtain ⟨ag, cg, g1, g2, g3, g4⟩ := hx.as_
 exact middle_any w (blkOf bs i) (k.v i) (e.tx i) bs (fun p => (e.tx p).state) hx af ag cf cg h1 g1 h4 g4 (fun p hp => (hs.eng_txc (hr p hp)).2.state) h2 h3 g2 g3
theorem strict_eng (w0 w : World) (b : Nat) (bs : List Nat) (k : EngV) (e : Eng) (i : Nat) (L : List HProp) (hs : S w0 w (engO b bs k e :: L)) (hi : i < e.txs.length) :
  Calls Tryz.prog 82 #[.pointer (some ⟨blkOf bs i, 0, none⟩)] w fun r w' => r = .returned (.bool (e.tx i).strict) ∧ w = w' := by
 have hx := (hs.eng_txc hi).2
 exact strict_any (blkOf bs i) (e.tx i).level (e.tx i).state w hx.level hx.state
end Go.Proofs.YtmfngjclccehaaaGreatDoor
namespace Go.Proofs.YtmfngjclccehaaaGreatDoor
open Go Go.RowKit Go.Sep
theorem ralive_any (p : Nat) (state : Int) (w : World) (hs : 0 ≤ state) (h1 : w.cell? ⟨p, 1, none⟩ = some (.int .i64 state)) :
  Calls Tryz.prog 47 #[.pointer (some ⟨p, 0, none⟩)] w fun e w' => e = .returned (.bool (decide (state ≤ 1))) ∧ w = w' := by
 by_cases h0 : state = 0
 ·subst h0
  clear hs
  go_enter Tryz.func47, Tryz.ntmps47
  go_wp2
  go_ret
  exact ⟨rfl, rfl⟩
 ·have hb : (state == 0) = false := by simpa using h0
  have he : (state == 1) = decide (state ≤ 1) := by
   by_cases h : state = 1
   ·subst h; rfl
   ·rw [show (state == 1) = false by simpa using h, decide_eq_false (by omega)]
  have HE := hid he
  clear hs h0 he
  go_enter Tryz.func47, Tryz.ntmps47
  go_wp2
  go_ret
  exact ⟨by have h := HE.out; rw [← h]; rfl, rfl⟩
theorem rstrict_any (p : Nat) (level state : Int) (w : World) (h0 : w.cell? ⟨p, 0, none⟩ = some (.int .i64 level)) (h1 : w.cell? ⟨p, 1, none⟩ = some (.int .i64 state)) :
  Calls Tryz.prog 52 #[.pointer (some ⟨p, 0, none⟩)] w fun e w' => e = .returned (.bool (decide (level = 2) && decide (state ≠ 3))) ∧ w = w' := by
 by_cases hl : level = 2
 ·subst hl
  by_cases hs : state = 3
  ·subst hs
   go_enter Tryz.func52, Tryz.ntmps52
   go_wp2
   go_ret
   exact ⟨rfl, rfl⟩
  ·have hb : (state != 3) = true := by simpa using hs
   have HF := hid hs
   clear hs
   go_enter Tryz.func52, Tryz.ntmps52
   go_wp2
   go_ret
   exact ⟨by have := HF.out; show Ending.returned (.bool true) = _; simp [this], rfl⟩
 ·have hb : (level == 2) = false := by simpa using hl
  have HF := hid (show (decide (level = 2) && decide (state ≠ 3)) = false by simp [hl])
  clear hl
  go_enter Tryz.func52, Tryz.ntmps52
  go_wp2
  go_ret
  exact ⟨by rw [HF.out]; rfl, rfl⟩
theorem ownMap_step {l : List (Int × Int)} {m : Nat} {p : Int × Int} (h : l[m]? = some p) (key : Int) : mget (ownMap (l.take (m + 1))) key = if p.1 = key then some p.2 else mget (ownMap (l.take m)) key := by
 rw [take_succ_get h, ownMap_snoc, mget_put]
 by_cases hk : p.1 = key
 ·simp [hk]
 ·rw [if_neg hk]; simp [Ne.symm hk]
set_option maxRecDepth 20000 in
set_option maxHeartbeats 2000000 in
theorem rown_any (w : World) (p : Nat) (i : Nat) (bs : List Nat) (v : RtxV) (x : Tx) (key : Int) (hx : RtxC w bs p i v x) :
  Calls Tryz.prog 49 #[.pointer (some ⟨p, 0, none⟩), .int .i64 key] w fun e w' => e = .returned (.tuple #[.int .i64 ((mget x.writes key).getD 0), .bool (x.wrote key)]) ∧ w = w' := by
 have c7 := hx.owns
 obtain ⟨a, cap, hov, hl1, hl2, hat⟩ := hx.os
 rw [hov] at c7
 unfold Tx.wrote
 rw [hx.map]
 have HAT := hid hat
 unfold maxLen at hl2
 obtain ⟨l, hl⟩ : ∃ l, l = v.own := ⟨_, rfl⟩
 rw [← hl] at c7 hl1 HAT ⊢
 clear hx hov hat hl
 go_enter Tryz.func49, Tryz.ntmps49
 go_wp2_with fail
 go_loopw [6] (fun c wr => ∃ m : Nat, m ≤ l.length ∧ c = .int .i64 ((m : Int) - 1) ∧ wr = w ∧ Hid (mget (ownMap l) key = mget (ownMap (l.take m)) key)) (fun c _ => (intOf c + 1).toNat)
 case atStart => exact ⟨l.length, Nat.le_refl _, rfl, rfl, hid (by rw [List.take_length])⟩
 case round =>
  obtain ⟨m, hm, rfl, rfl, hg⟩ := hrel
  cases m with
  | zero =>
   have hn : mget (ownMap l) key = none := by rw [hg.out]; rfl
   have HN := hid hn
   clear hg hn
   go_wp2_with fail
   go_ret2
   exact ⟨by rw [HN.out]; rfl, rfl⟩
  | succ m =>
   have hp : l[m]? = some l[m] := by simp [show m < l.length by omega]
   generalize l[m] = q at hp
   obtain ⟨g, o, rfl, d0, d1⟩ := HAT.out m q hp
   have hst := ownMap_step hp key
   have hmi : ((m + 1 : Nat) : Int) - 1 = (m : Int) := by omega
   rw [hmi]
   by_cases hk : q.1 = key
   ·have hn : mget (ownMap l) key = some q.2 := by rw [hg.out, hst, if_pos hk]
    have HN := hid hn
    clear hg hn hst hp
    go_wp2_with fail
    go_ret2
    exact ⟨by rw [HN.out]; rfl, rfl⟩
   ·have hkb : (q.1 == key) = false := by simpa using hk
    have hg2 : Hid (mget (ownMap l) key = mget (ownMap (l.take m)) key) := hid (by rw [hg.out, hst, if_neg hk])
    clear hg hst hp hk
    go_wp2_with fail
    go_roundw
    case rel => exact ⟨m, by omega, by go_num, trivial, hg2⟩
    case measure => simp [intOf]
theorem rof_any (w0 w : World) (b : Nat) (bs : List Nat) (k : RenV) (e : Eng) (n : Int) (op : Bool) (L : List HProp) (hs : S w0 w (renO b bs k e :: L)) :
  Calls Tryz.prog 38 #[.pointer (some ⟨b, 0, none⟩), .int .i64 n, .bool op] w fun r w' => r = .returned (.tuple #[if e.err n op = 0 then ptr bs (n.toNat - 1) else .pointer none, .int .i64 (e.err n op)]) ∧ w = w' := by
 have hc := hs.ren_c.2
 have c12 := hc.txs
 obtain ⟨a, cap, hv, hle, hcap, hrow⟩ := hc.row
 rw [hv] at c12
 unfold maxLen at hcap
 by_cases h1 : n < 1 ∨ (e.txs.length : Int) < n
 ·have hb : decide ((1 : Int) ≤ n ∧ n ≤ (e.txs.length : Int)) = false := decide_eq_false (by omega)
  have he : e.err n op = 7 := by unfold Eng.err; rw [if_pos h1]
  rw [he]
  clear hs hc hv hrow h1 he
  go_enter Tryz.func38, Tryz.ntmps38
  go_wp2_with (go_at_call 44; with_reducible refine (in_any _ _ _ _).mono ?_; rw [hb]; rintro e w' ⟨rfl, rfl⟩)
  go_ret2
  exact ⟨rfl, rfl⟩
 ·obtain ⟨i, rfl⟩ : ∃ i : Nat, n = (i : Int) + 1 := ⟨n.toNat - 1, by omega⟩
  have hi : i < e.txs.length := by omega
  have hb : decide ((1 : Int) ≤ (i : Int) + 1 ∧ (i : Int) + 1 ≤ (e.txs.length : Int)) = true := decide_eq_true (by omega)
  obtain ⟨g, o, rfl, ci⟩ := hrow i hi
  have c1 := (hs.ren_txc hi).2.state
  have hi2 : ((i : Int) + 1).toNat - 1 = i := by omega
  have hi3 : (i : Int) + 1 - 1 = (i : Int) := by omega
  have he : e.err ((i : Int) + 1) op = if op = true ∧ (e.tx i).state ≠ 0 then 6 else 0 := by unfold Eng.err; rw [if_neg h1, hi2]
  have HE := hid he
  rw [hi2]
  unfold ptr at ci ⊢
  clear hs hc hv hrow h1 he
  cases op with
  | false =>
   have hx : e.err ((i : Int) + 1) false = 0 := by rw [HE.out]; exact if_neg (fun h => by cases h.1)
   rw [hx]
   clear hx HE
   go_enter Tryz.func38, Tryz.ntmps38
   go_wp2_with (go_at_call 44; with_reducible refine (in_any _ _ _ _).mono ?_; rw [hb]; rintro e w' ⟨rfl, rfl⟩)
   go_ret2
   exact ⟨rfl, rfl⟩
  | true =>
   by_cases hst : (e.tx i).state = 0
   ·rw [hst] at c1
    have hx : e.err ((i : Int) + 1) true = 0 := by rw [HE.out]; exact if_neg (fun h => h.2 hst)
    rw [hx]
    clear hst hx HE
    go_enter Tryz.func38, Tryz.ntmps38
    go_wp2_with (go_at_call 44; with_reducible refine (in_any _ _ _ _).mono ?_; rw [hb]; rintro e w' ⟨rfl, rfl⟩)
    go_ret2
    exact ⟨rfl, rfl⟩
   ·have hx : e.err ((i : Int) + 1) true = 6 := by rw [HE.out]; exact if_pos ⟨rfl, hst⟩
    rw [hx]
    clear hx HE
    have hsb : ((e.tx i).state != 0) = true := by simpa using hst
    clear hst
    go_enter Tryz.func38, Tryz.ntmps38
    go_wp2_with (go_at_call 44; with_reducible refine (in_any _ _ _ _).mono ?_; rw [hb]; rintro e w' ⟨rfl, rfl⟩)
    go_ret2
    exact ⟨rfl, rfl⟩
theorem any_step {l : List Nat} {m p : Nat} (h : l[m]? = some p) (f : Nat → Bool) : (l.take (m + 1)).any f = ((l.take m).any f || f p) := by
 rw [take_succ_get h, List.any_append]; simp
set_option maxRecDepth 20000 in
set_option maxHeartbeats 4000000 in
theorem rbetween_any (w0 w : World) (b : Nat) (bs : List Nat) (k : RenV) (e : Eng) (i : Nat) (L : List HProp) (hs : S w0 w (renO b bs k e :: L)) (hi : i < e.txs.length) (hr : ∀ j ∈ (e.tx i).fore ++ (e.tx i).aft, j < e.txs.length) :
  Calls Tryz.prog 68 #[.pointer (some ⟨blkOf bs i, 0, none⟩)] w fun r w' => r = .returned (.bool (e.middle i)) ∧ w = w' := by
 have hx := (hs.ren_txc hi).2
 obtain ⟨af, cf, h1, h2, h3, h4⟩ := hx.fs
 obtain ⟨ag, cg, g1, g2, g3, g4⟩ := hx.as_
 have c10 := hx.aft
 have c11 := hx.fore
 rw [h1] at c11
 rw [g1] at c10
 unfold maxLen at h3 g3
 have hst : ∀ p ∈ (e.tx i).fore ++ (e.tx i).aft, w.cell? ⟨blkOf bs p, 1, none⟩ = some (.int .i64 (e.tx p).state) := fun p hp => (hs.ren_txc (hr p hp)).2.state
 have hmd : e.middle i = ((e.tx i).fore.any e.there && (e.tx i).aft.any e.there) := rfl
 have HF := hid h4; have HG := hid g4; have HM := hid hmd
 obtain ⟨fl, hfl⟩ : ∃ l, l = (e.tx i).fore := ⟨_, rfl⟩
 obtain ⟨al, hal⟩ : ∃ l, l = (e.tx i).aft := ⟨_, rfl⟩
 rw [← hfl, ← hal] at hst HM
 rw [← hfl] at HF h2 c11
 rw [← hal] at HG g2 c10
 have HST := hid hst
 clear hs hi hr hx h1 h4 g1 g4 hst hmd hfl hal
 go_enter Tryz.func68, Tryz.ntmps68
 go_wp2_with fail
 go_loopw [3, 13] (fun n c wr => ∃ (m : Nat) (a : Bool), m ≤ al.length ∧ c = .int .i64 m ∧ n = .int .i64 (cond a 1 0) ∧ Hid (a = (al.take m).any e.there) ∧ w = wr) (fun _ c _ => al.length - (intOf c).toNat)
 case atStart => exact ⟨0, false, Nat.zero_le _, rfl, rfl, hid rfl, rfl⟩
 case round =>
  obtain ⟨m, a, hm, rfl, rfl, ha, rfl⟩ := hrel
  by_cases hlt : m < al.length
  ·have hp : al[m]? = some al[m] := by simp [hlt]
   generalize al[m] = p at hp
   obtain ⟨g, o, rfl, d0⟩ := HG.out m p hp
   have d1 := HST.out p (List.mem_append_right _ (List.mem_of_getElem? hp))
   have hn := any_step hp e.there
   have hth : e.there p = decide ((e.tx p).state ≠ 3) := rfl
   rw [← ha.out, hth] at hn
   have HN := hid hn
   unfold ptr at d0
   generalize (e.tx p).state = st at d1 HN
   clear ha hp hn hth
   by_cases h : st = 3
   ·subst h
    have hn2 : Hid (a = (al.take (m + 1)).any e.there) := hid (by rw [HN.out]; simp)
    clear HN
    go_wp2_with fail
    go_roundw
    case rel => exact ⟨m + 1, a, by omega, by go_num, by first | rfl | trivial, hn2, trivial⟩
    case measure => simp [intOf]; omega
   ·have hb : (st != 3) = true := by simpa using h
    have hn2 : Hid (true = (al.take (m + 1)).any e.there) := hid (by rw [HN.out]; simp [h])
    clear HN h
    cases a with
    | true =>
     go_wp2_with fail
     go_roundw
     case rel => exact ⟨m + 1, true, by omega, by go_num, by first | rfl | trivial, hn2, trivial⟩
     case measure => simp [intOf]; omega
    | false =>
     go_wp2_with fail
     go_roundw
     case rel => exact ⟨m + 1, true, by omega, by go_num, by first | rfl | trivial, hn2, trivial⟩
     case measure => simp [intOf]; omega
  ·have haa : a = al.any e.there := by rw [ha.out, List.take_of_length_le (by omega)]
   have HA := hid haa
   clear ha haa
   go_wp2_with fail
   go_loopw [3, 30] (fun n c wr => ∃ (q : Nat) (f : Bool), q ≤ fl.length ∧ c = .int .i64 q ∧ n = .int .i64 (cond a (cond f 3 1) (cond f 2 0)) ∧ Hid (f = (fl.take q).any e.there) ∧ w = wr) (fun _ c _ => fl.length - (intOf c).toNat)
   case atStart => exact ⟨0, false, Nat.zero_le _, rfl, rfl, hid rfl, rfl⟩
   case round =>
    obtain ⟨q, f, hq, rfl, rfl, hf, rfl⟩ := hrel
    by_cases hlt2 : q < fl.length
    ·have hp : fl[q]? = some fl[q] := by simp [hlt2]
     generalize fl[q] = p at hp
     obtain ⟨g, o, rfl, d0⟩ := HF.out q p hp
     have d1 := HST.out p (List.mem_append_left _ (List.mem_of_getElem? hp))
     have hn := any_step hp e.there
     have hth : e.there p = decide ((e.tx p).state ≠ 3) := rfl
     rw [← hf.out, hth] at hn
     have HN := hid hn
     unfold ptr at d0
     generalize (e.tx p).state = st at d1 HN
     clear hf hp hn hth
     by_cases h : st = 3
     ·subst h
      have hn2 : Hid (f = (fl.take (q + 1)).any e.there) := hid (by rw [HN.out]; simp)
      clear HN
      go_wp2_with fail
      go_roundw
      case rel => exact ⟨q + 1, f, by omega, by go_num, by first | rfl | trivial, hn2, trivial⟩
      case measure => simp [intOf]; omega
     ·have hb : (st != 3) = true := by simpa using h
      have hn2 : Hid (true = (fl.take (q + 1)).any e.there) := hid (by rw [HN.out]; simp [h])
      clear HN h
      cases a <;> cases f
      all_goals
       go_wp2_with fail
       go_roundw
       case rel => exact ⟨q + 1, true, by omega, by go_num, by first | rfl | trivial, hn2, trivial⟩
       case measure => simp [intOf]; omega
    ·have hff : f = fl.any e.there := by rw [hf.out, List.take_of_length_le (by omega)]
     have HX := hid hff
     clear hf hff
     cases a <;> cases f
     all_goals
      go_wp2_with fail
      go_ret
      exact ⟨by rw [HM.out, ← HX.out, ← HA.out]; rfl, rfl⟩
end Go.Proofs.YtmfngjclccehaaaGreatDoor
