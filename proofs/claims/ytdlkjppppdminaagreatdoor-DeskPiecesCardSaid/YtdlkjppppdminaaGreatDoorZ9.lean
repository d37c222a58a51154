/- Transactions at the same time: versions, what a commit installs, what a sweep leaves; what is as it was later on. No walk in sight. -/
import Derived.Test.YtdlkjppppdminaaGreatDoorZ0
import Derived.Shelf.SlIterI.Nil
import Derived.Shelf.SortM.Plain
import Derived.Shelf.SortM.SortNone
import Derived.Ground.GgzProg
import Derived.Ground.SlgmProg
import Derived.Test.YtdlkjppppdminaaGreatDoorProg
import Derived.Test.YtdlkjppppdminaaGreatDoorZ2
import Derived.Test.YtdlkjppppdminaaGreatDoorZ3
import Derived.Lib.SlKeysI
import Derived.Maps.OwnSet
import Derived.Test.YtdlkjppppdminaaGreatDoorZ8
/- The library's slices.Sorted(maps.Keys(m)) at this translation: laid by the kit's tool. -/
namespace Go.Proofs
open Go.Shelf
def Tryz.keysA_ren : Go.Shelf.Ren := ⟨fun | 7 => 140 | 10 => 166 | n => n, fun | 23 => 101 | 26 => 3 | 3 => 3 | 28 => 215 | 0 => 0 | 27 => 214 | 33 => 94 | 4 => 4 | n => n, fun | n => n⟩
theorem Tryz.keysA : Go.Proofs.SlLaysZI.n7 Tryz.prog Tryz.keysA_ren := {
 mixed := by kernel_rfl
 f7 := ⟨Tryz.f140.name, by decide, Tryz.func140.trans (congrArg some (by kernel_rfl))⟩
 f10 := ⟨Tryz.f166.name, by decide, Tryz.func166.trans (congrArg some (by kernel_rfl))⟩
 t0 := Tryz.underlying0
 a0 := Tryz.isAgg0
 z0 := Tryz.sizeOf0
 v0 := Tryz.zeroValue0
 t4 := Tryz.underlying4
 a4 := Tryz.isAgg4
 z4 := Tryz.sizeOf4
 v4 := Tryz.zeroValue4
 t23 := Tryz.underlying101
 a23 := Tryz.isAgg101
 z23 := Tryz.sizeOf101
 v23 := Tryz.zeroValue101
 t26 := Tryz.underlying3
 a26 := Tryz.isAgg3
 z26 := Tryz.sizeOf3
 v26 := Tryz.zeroValue3
 t27 := Tryz.underlying214
 a27 := Tryz.isAgg214
 z27 := Tryz.sizeOf214
 v27 := Tryz.zeroValue214
 t28 := Tryz.underlying215
 a28 := Tryz.isAgg215
 z28 := Tryz.sizeOf215
 v28 := Tryz.zeroValue215
 t33 := Tryz.underlying94
 a33 := Tryz.isAgg94
 z33 := Tryz.sizeOf94
 v33 := Tryz.zeroValue94 }
def Tryz.sortedA_ren : Go.Shelf.Ren := ⟨fun | 6 => 139 | 8 => 164 | 9 => 165 | 11 => 174 | 13 => 170 | 12 => 175 | 23 => 185 | 24 => 133 | 14 => 187 | 15 => 188 | 16 => 189 | 17 => 190 | 18 => 191 | 19 => 192 | 20 => 193 | 21 => 194 | 22 => 195 | 25 => 201 | 26 => 197 | 27 => 198 | 28 => 202 | 29 => 203 | 30 => 204 | 31 => 206 | n => n, fun | 26 => 3 | 28 => 215 | 24 => 47 | 0 => 0 | 3 => 3 | 37 => 157 | 48 => 206 | 50 => 140 | 4 => 4 | 40 => 250 | 39 => 249 | 45 => 179 | 5 => 5 | 9 => 9 | 51 => 262 | 55 => 266 | 57 => 270 | 58 => 271 | 33 => 94 | n => n, fun | n => n⟩
theorem Tryz.sortedA : Go.Proofs.SlLaysZI.n6 Tryz.prog Tryz.sortedA_ren := {
 mixed := by kernel_rfl
 f6 := ⟨Tryz.f139.name, by decide, Tryz.func139.trans (congrArg some (by kernel_rfl))⟩
 f8 := ⟨Tryz.f164.name, by decide, Tryz.func164.trans (congrArg some (by kernel_rfl))⟩
 f11 := ⟨Tryz.f174.name, by decide, Tryz.func174.trans (congrArg some (by kernel_rfl))⟩
 t0 := Tryz.underlying0
 a0 := Tryz.isAgg0
 z0 := Tryz.sizeOf0
 v0 := Tryz.zeroValue0
 t24 := Tryz.underlying47
 a24 := Tryz.isAgg47
 z24 := Tryz.sizeOf47
 v24 := Tryz.zeroValue47
 t26 := Tryz.underlying3
 a26 := Tryz.isAgg3
 z26 := Tryz.sizeOf3
 v26 := Tryz.zeroValue3
 t28 := Tryz.underlying215
 a28 := Tryz.isAgg215
 z28 := Tryz.sizeOf215
 v28 := Tryz.zeroValue215
 i26 := by kernel_rfl }
def Tryz.sortA_ren : Go.Shelf.Ren := ⟨fun | 5 => 165 | 8 => 170 | 7 => 175 | 19 => 185 | 20 => 133 | 10 => 187 | 11 => 188 | 12 => 189 | 13 => 190 | 14 => 191 | 15 => 192 | 16 => 193 | 17 => 194 | 18 => 195 | 30 => 201 | 31 => 197 | 32 => 198 | 33 => 202 | 34 => 203 | 35 => 204 | 40 => 206 | n => n, fun | 23 => 47 | 25 => 3 | 3 => 3 | 32 => 157 | 22 => 47 | 0 => 0 | 44 => 206 | 46 => 140 | 4 => 4 | 36 => 250 | 35 => 249 | 41 => 179 | 5 => 5 | 9 => 9 | 53 => 262 | 57 => 266 | 63 => 270 | 64 => 271 | n => n, fun | n => n⟩
theorem Tryz.sortA : Go.Proofs.SlLaysM.n5 Tryz.prog Tryz.sortA_ren := {
 mixed := by kernel_rfl
 f5 := ⟨Tryz.f165.name, by decide, Tryz.func165.trans (congrArg some (by kernel_rfl))⟩
 f7 := ⟨Tryz.f175.name, by decide, Tryz.func175.trans (congrArg some (by kernel_rfl))⟩
 f8 := Tryz.func170.trans (congrArg some (by kernel_rfl))
 f10 := ⟨Tryz.f187.name, by decide, Tryz.func187.trans (congrArg some (by kernel_rfl))⟩
 f11 := ⟨Tryz.f188.name, by decide, Tryz.func188.trans (congrArg some (by kernel_rfl))⟩
 f12 := ⟨Tryz.f189.name, by decide, Tryz.func189.trans (congrArg some (by kernel_rfl))⟩
 f13 := ⟨Tryz.f190.name, by decide, Tryz.func190.trans (congrArg some (by kernel_rfl))⟩
 f14 := ⟨Tryz.f191.name, by decide, Tryz.func191.trans (congrArg some (by kernel_rfl))⟩
 f15 := ⟨Tryz.f192.name, by decide, Tryz.func192.trans (congrArg some (by kernel_rfl))⟩
 f16 := ⟨Tryz.f193.name, by decide, Tryz.func193.trans (congrArg some (by kernel_rfl))⟩
 f17 := ⟨Tryz.f194.name, by decide, Tryz.func194.trans (congrArg some (by kernel_rfl))⟩
 f18 := ⟨Tryz.f195.name, by decide, Tryz.func195.trans (congrArg some (by kernel_rfl))⟩
 f19 := Tryz.func185.trans (congrArg some (by kernel_rfl))
 f20 := Tryz.func133.trans (congrArg some (by kernel_rfl))
 f30 := ⟨Tryz.f201.name, by decide, Tryz.func201.trans (congrArg some (by kernel_rfl))⟩
 f31 := Tryz.func197.trans (congrArg some (by kernel_rfl))
 f32 := Tryz.func198.trans (congrArg some (by kernel_rfl))
 f33 := ⟨Tryz.f202.name, by decide, Tryz.func202.trans (congrArg some (by kernel_rfl))⟩
 f34 := ⟨Tryz.f203.name, by decide, Tryz.func203.trans (congrArg some (by kernel_rfl))⟩
 f35 := ⟨Tryz.f204.name, by decide, Tryz.func204.trans (congrArg some (by kernel_rfl))⟩
 f40 := ⟨Tryz.f206.name, by decide, Tryz.func206.trans (congrArg some (by kernel_rfl))⟩
 t0 := Tryz.underlying0
 a0 := Tryz.isAgg0
 z0 := Tryz.sizeOf0
 v0 := Tryz.zeroValue0
 t3 := Tryz.underlying3
 a3 := Tryz.isAgg3
 z3 := Tryz.sizeOf3
 v3 := Tryz.zeroValue3
 t4 := Tryz.underlying4
 a4 := Tryz.isAgg4
 z4 := Tryz.sizeOf4
 v4 := Tryz.zeroValue4
 t5 := Tryz.underlying5
 a5 := Tryz.isAgg5
 z5 := Tryz.sizeOf5
 v5 := Tryz.zeroValue5
 t9 := Tryz.underlying9
 a9 := Tryz.isAgg9
 z9 := Tryz.sizeOf9
 v9 := Tryz.zeroValue9
 t22 := Tryz.underlying47
 a22 := Tryz.isAgg47
 z22 := Tryz.sizeOf47
 v22 := Tryz.zeroValue47
 t23 := Tryz.underlying47
 a23 := Tryz.isAgg47
 z23 := Tryz.sizeOf47
 v23 := Tryz.zeroValue47
 t25 := Tryz.underlying3
 a25 := Tryz.isAgg3
 z25 := Tryz.sizeOf3
 v25 := Tryz.zeroValue3
 t32 := Tryz.underlying157
 a32 := Tryz.isAgg157
 z32 := Tryz.sizeOf157
 v32 := Tryz.zeroValue157
 t35 := Tryz.underlying249
 a35 := Tryz.isAgg249
 z35 := Tryz.sizeOf249
 v35 := Tryz.zeroValue249
 t36 := Tryz.underlying250
 a36 := Tryz.isAgg250
 z36 := Tryz.sizeOf250
 v36 := Tryz.zeroValue250
 t41 := Tryz.underlying179
 a41 := Tryz.isAgg179
 z41 := Tryz.sizeOf179
 v41 := Tryz.zeroValue179
 t44 := Tryz.underlying206
 a44 := Tryz.isAgg206
 z44 := Tryz.sizeOf206
 v44 := Tryz.zeroValue206
 t46 := Tryz.underlying140
 a46 := Tryz.isAgg140
 z46 := Tryz.sizeOf140
 v46 := Tryz.zeroValue140
 t53 := Tryz.underlying262
 a53 := Tryz.isAgg262
 z53 := Tryz.sizeOf262
 v53 := Tryz.zeroValue262
 t57 := Tryz.underlying266
 a57 := Tryz.isAgg266
 z57 := Tryz.sizeOf266
 v57 := Tryz.zeroValue266
 t63 := Tryz.underlying270
 a63 := Tryz.isAgg270
 z63 := Tryz.sizeOf270
 v63 := Tryz.zeroValue270
 t64 := Tryz.underlying271
 a64 := Tryz.isAgg271
 z64 := Tryz.sizeOf271
 v64 := Tryz.zeroValue271 }
end Go.Proofs
/- The keys of a map of whole numbers, sorted by the library: slices.Sorted(maps.Keys(m)). -/
namespace Go.Sep
open Go Go.RowKit
theorem S.row_in {w0 w w' : World} {L : List HProp} {e : TypeId} {size n : Nat} {v : Value} {xs : List Value} (h : S w0 w L) (hb : Below w.heap.size w w') (hr : w'.ownsRow w.heap.size e size v n xs) : S w0 w' (sl e size v n xs :: L) := by
 obtain ⟨hl, hr⟩ := hr
 rcases hr with ⟨rfl, rfl⟩ | ⟨g, cap, cur, rfl, hg, hh, hn, hc, hs, ht⟩
 ·obtain rfl : xs = [] := List.eq_nil_of_length_eq_zero (by simpa using hl)
  exact (h.onto hb).sl_nil
 ·have h1 : S w0 w' (blk g e cur.toList :: L) := by
   refine h.add hb ?_
   obtain ⟨gh, p, hgh⟩ := blk_hp g e cur.toList
   refine ⟨gh, p, fun b i t ht' => ?_⟩
   obtain ⟨rfl, ht'⟩ := hgh b i t ht'
   refine ⟨hg, ?_⟩
   unfold holds
   rw [hh]
   cases i with
   | none => simp at ht'; subst ht'; simp
   | some i => obtain ⟨v, hv, rfl⟩ := ht'; simp at hv ⊢; exact hv
  have hcl : cur.toList.length = cap * size := by simpa using hs
  refine .sl_intro (g := g) (cap := cap) (pre := []) (sp := cur.toList.drop (n * size)) (post := []) ⟨rfl, hl, ?_, hn, hc⟩ ?_
  ·rw [← ht, List.length_take, List.length_drop, hcl]
   have : n * size ≤ cap * size := Nat.mul_le_mul_right _ hn
   omega
  ·rw [← ht]
   simpa using h1
end Go.Sep
namespace Go.Proofs.YtdlkjppppdminaaGreatDoor
open Go Go.RowKit Go.Sep Go.Proofs
def anyV : Value → Option (DataW Unit × List MemPlace) := fun _ => some (.lit (.bool true), [])
theorem keyOf_int {x : Int} (hx : 0 ≤ x ∧ x ≤ 1000000) : keyOf Tryz.prog 3 (.int .i64 x) = some (.int .i64 x) := by
 have hm : IntKind.min .i64 = -9223372036854775808 := by decide
 have hM : IntKind.max .i64 = 9223372036854775807 := by decide
 have hw : (Lit.int .i64 x).wf = true := by
  simp only [Lit.wf, Bool.and_eq_true, decide_eq_true_eq]
  omega
 simp [keyOf, mapKey, Tryz.underlying3, hw]
theorem ownsMap_mp {w : World} {b : Nat} {D : List (Int × Int)} (h : Sep.MapAt Sep.encI (fun _ => True) w b (ienc D)) (hk : ∀ p ∈ D, 0 ≤ p.1 ∧ p.1 ≤ 1000000) (hl : D.length ≤ 1000000) :
  ∃ D0 : DataW Unit, w.ownsMap Tryz.prog 3 anyV b D.length D0 ∧ (intKeys D0).Perm (D.map (·.1)) ∧ Maps.size D0 = D.length := by
 obtain ⟨es, clock, hb, hm⟩ := h
 have hkey := keys_of hm
 have hsz : es.toList.length = D.length := by
  have := congrArg List.length hkey
  simpa [ienc] using this
 have hsz2 : es.size = D.length := by simpa using hsz
 have hrd : ∀ x ∈ es.toList, ∃ p ∈ D, x.key = .int .i64 p.1 := fun x hx => by
  have : x.key ∈ es.toList.map (·.key) := List.mem_map.2 ⟨x, hx, rfl⟩
  rw [hkey] at this
  obtain ⟨k, hk', e1⟩ := List.mem_map.1 this
  simp only [ienc, List.map_map, Function.comp_def] at hk'
  obtain ⟨p, hp, rfl⟩ := List.mem_map.1 hk'
  exact ⟨p, hp, e1.symm⟩
 have hrg : ∀ x ∈ es.toList, ∃ p ∈ D, x.key = .int .i64 p.1 ∧ WideElems.rd Tryz.prog 3 anyV x = some (.int .i64 p.1, .lit (.bool true)) := fun x hx => by
  obtain ⟨p, hp, e1⟩ := hrd x hx
  refine ⟨p, hp, e1, ?_⟩
  unfold WideElems.rd
  rw [e1, keyOf_int (hk p hp)]
  rfl
 refine ⟨.map ((es.toList.map (WideElems.rg Tryz.prog 3 anyV)).foldr DataW.insert []), ⟨es, clock, hb, ⟨?_, ⟨hm.2.2.1, hm.2.1, ?_⟩, fun x hx => ?_⟩, by omega, rfl⟩, ?_, ?_⟩
 ·unfold maxLen; omega
 ·rw [hkey]
  exact hm.2.2.2.1.map (f := Sep.encI) (fun a b hab => fun e => hab (by simpa [Sep.encI] using e))
 ·obtain ⟨p, _, _, e1⟩ := hrg x hx
  exact ⟨_, e1⟩
 ·have h1 : (intKeys (.map ((es.toList.map (WideElems.rg Tryz.prog 3 anyV)).foldr DataW.insert [])) : List Int) = ((es.toList.map (WideElems.rg Tryz.prog 3 anyV)).foldr DataW.insert []).map fun p => Go.intOf p.1 := rfl
  rw [h1]
  refine ((WideShapes.sorted_perm _).map _).trans ?_
  rw [List.map_map]
  have h2 : es.toList.map ((fun p : Lit × DataW Unit => Go.intOf p.1) ∘ WideElems.rg Tryz.prog 3 anyV) = D.map (·.1) := by
   have h3 : es.toList.map ((fun p : Lit × DataW Unit => Go.intOf p.1) ∘ WideElems.rg Tryz.prog 3 anyV) = (es.toList.map (·.key)).map fun v => match v with | .int _ n => n | _ => 0 := by
    rw [List.map_map]
    apply List.map_congr_left
    intro x hx
    obtain ⟨p, _, e1, e2⟩ := hrg x hx
    simp only [Function.comp_apply]
    rw [WideElems.rg_of e2, e1]
    rfl
   rw [h3, hkey]
   simp [ienc, List.map_map, Function.comp_def, Sep.encI]
  rw [h2]
 ·show ((es.toList.map (WideElems.rg Tryz.prog 3 anyV)).foldr DataW.insert []).length = _
  rw [(WideShapes.sorted_perm _).length_eq]
  simpa using hsz
theorem sortsA (m : Nat) : AnyZI.SortsIn Tryz.prog Tryz.sortedA_ren Fence.wide m :=
 ⟨fun blk off cap ss W hH hblk hsz => callsIn_wide.2 (AnyM.slices_Sort_int Tryz.sortA blk off cap ss W hH hblk hsz),
  fun p cap W => callsIn_wide.2 (AnyM.slices_Sort_int_none Tryz.sortA p cap W)⟩
theorem keys_any (mb : Nat) (w : World) : Calls Tryz.prog 140 #[.map (some mb)] w fun e w' => e = .returned (.func (.func 166) #[] #[.pointer (some ⟨w.heap.size, 0, none⟩)]) ∧ w' = w.alloc (.cells #[.map (some mb)] 101) :=
 (callsIn_wide (n := 6)).1 (AnyZI.keys_in Tryz.keysA Fence.wide 6 trivial rfl (some mb) w)
theorem sorted_any (w0 w : World) (B mb : Nat) (D : List (Int × Int)) (L : List HProp) (hs : S w0 w L) (hc : w.cell? ⟨B, 0, none⟩ = some (.map (some mb))) (hB : B < w.heap.size) (hm : Sep.MapAt Sep.encI (fun _ => True) w mb (ienc D))
  (hk : ∀ p ∈ D, 0 ≤ p.1 ∧ p.1 ≤ 1000000) (hl : D.length ≤ 1000000) :
  Calls Tryz.prog 139 #[.func (.func 166) #[] #[.pointer (some ⟨B, 0, none⟩)]] w fun e w' => ∃ v, e = .returned v ∧ S w0 w' (sl 3 1 v D.length (icells (sortI (D.map (·.1)))) :: L) := by
 obtain ⟨D0, hown, hperm, hsz⟩ := ownsMap_mp hm hk hl
 refine (callsIn_wide (n := 6)).1 ?_
 have hseq : SeqGives Fence.wide 3 Tryz.prog 166 #[.pointer (some ⟨B, 0, none⟩)] encZ (fun ss => ss.Perm (intKeys D0)) (Maps.size D0) w :=
  AnyZI.keys_gives (ρ := Tryz.keysA_ren) { Tryz.keysA with } Fence.wide 3 trivial rfl (by omega) B mb D.length D0 w hB hc hown
 have cS := AnyZI.sorted_in Tryz.sortedA Fence.wide 6 trivial trivial trivial trivial rfl (by omega) (sortsA _) (enters_of Tryz.func165 (by kernel_rfl) rfl) 166 #[.pointer (some ⟨B, 0, none⟩)] trivial (enters_of Tryz.func166 (by kernel_rfl) rfl) _ _ (by rw [hsz]; unfold maxLen; omega) (by rw [hsz]; omega) w hseq
 change CallsIn _ _ Tryz.prog 139 _ _ _ at cS
 refine cS.mono fun e w' ⟨v, ss, he, hS, hrow, _, hb⟩ => ⟨v, he, ?_⟩
 have hlen : ss.length = D.length := by rw [hS.length_eq, hperm.length_eq]; simp
 have hsort : ss.mergeSort (fun x y => decide (x ≤ y)) = sortI (D.map (·.1)) := sortI_of ((List.mergeSort_perm _ _).trans (hS.trans hperm)) (by
  have := List.pairwise_mergeSort (le := fun x y : Int => decide (x ≤ y)) (fun a b c h1 h2 => by simp only [decide_eq_true_eq] at *; omega) (fun a b => by simp only [Bool.or_eq_true, decide_eq_true_eq]; omega) ss
  exact this.imp fun h => by simpa using h)
 rw [hsort, hlen] at hrow
 exact hs.row_in hb hrow
end Go.Proofs.YtdlkjppppdminaaGreatDoor
/- The program's engine: Writes. -/
namespace Go.Proofs.YtdlkjppppdminaaGreatDoor
open Go Go.RowKit Go.Sep
theorem own_few {e : Eng} {N : Nat} {U : List Task} {i : Nat} (h : OkT N e U) (hi : i < e.txs.length) : (e.tx i).writes.length ≤ 10 := by
 have h1 := h.at hi
 have := Sep.few (S := [0, 1, 2, 3, 4, 5, 6, 7, 8, 9]) h1.keys (fun k hk => by
  obtain ⟨p, hp, rfl⟩ := List.mem_map.1 hk
  have := (h1.own p hp).1
  unfold keyOk at this
  simp; omega)
 simpa using this
theorem written_len (x : Tx) : x.written.length = x.writes.length := by simp [Tx.written, sortI_len]
set_option maxRecDepth 40000 in
set_option maxHeartbeats 4000000 in
theorem ewrites_any (w0 w : World) (b : Nat) (bs : List Nat) (e : Eng) (n : Int) (L : List HProp) (N : Nat) (U : List Task) (hok : OkT N e U) (hs : S w0 w (engP b bs e :: L)) :
  Calls Tryz.prog 106 #[.pointer (some ⟨b, 0, none⟩), .int .i64 n] w fun r w' => ∃ v, r = .returned (.tuple #[v, errV (e.writes n).2]) ∧ S w0 w' (sl 91 2 v (e.writes n).1.length (pcells (e.writes n).1) :: engP b bs e :: L) := by
 have HS := hid hs
 obtain ⟨k, hs⟩ := hs.eng_open
 have hO : S w0 w (engO b bs k e :: storeP 99 b 0 e.V e.last :: tabP 3 b 11 e.t :: L) := hs.conv (by simp only [all]; ac_rfl)
 rcases e.err_cases n false with ⟨h1, h2⟩ | ⟨i, rfl, hi, ⟨h1, h2, h3⟩ | ⟨h1, h2⟩⟩
 ·have hf : e.writes n = ([], 7) := by unfold Eng.writes; rw [if_pos (by rw [h1]; decide), h1]
  have HF := hid hf; have HC := hid (of_miss w0 w b bs k e n false _ hO h2)
  clear hs hO h1 h2 hf hok
  go_enter Tryz.func106, Tryz.ntmps106
  go_wp2_with fail
  with_reducible refine HC.out.mono ?_
  rintro r w' ⟨rfl, rfl⟩
  go_wp2_with fail
  go_ret2
  refine ⟨.slice none 0 0, by rw [HF.out]; rfl, ?_⟩
  rw [HF.out]
  exact HS.out.sl_nil
 ·cases h2
 ·have hi2 : ((i : Int) + 1).toNat - 1 = i := by omega
  have hf : e.writes ((i : Int) + 1) = ((e.tx i).written, 0) := by unfold Eng.writes; rw [if_neg (by rw [h1]; decide), hi2]
  have hc := of_ok w0 w b bs k e i false _ hO hi h2
  unfold ptr at hc
  have hq : ∀ W M, S w0 W (engO b bs k e :: M) → W.cell? ⟨blkOf bs i, 6, none⟩ = some (.map (some (k.v i).mb)) ∧ Sep.MapAt Sep.encI (fun _ => True) W (k.v i).mb (ienc (e.tx i).writes) := fun W M h => ⟨(h.eng_txc hi).2.writes, (h.eng_txc hi).2.map⟩
  have hfew := own_few hok hi
  have hkeys : ∀ p ∈ (e.tx i).writes, 0 ≤ p.1 ∧ p.1 ≤ 1000000 := fun p hp => by
   have := ((hok.at hi).own p hp).1
   unfold keyOk at this; omega
  have c6 := (hq _ _ hO).1
  have hO2 := hO.alloc #[.map (some (k.v i).mb)] 101
  have hso := sorted_any w0 _ w.heap.size (k.v i).mb (e.tx i).writes _ hO2 (hO2.blk_cell 0 rfl) (by simp) ((hq _ _ hO2.tail).2) hkeys (by omega)
  obtain ⟨D, hD⟩ : ∃ D, (e.tx i).writes = D := ⟨_, rfl⟩
  obtain ⟨ks, hks⟩ : ∃ ks, sortI (D.map (·.1)) = ks := ⟨_, rfl⟩
  have hkl : ks.length = D.length := by rw [← hks, sortI_len]; simp
  have hwr : (e.tx i).written = ks.map fun k => (k, (mget D k).getD 0) := by unfold Tx.written; rw [hD, hks]
  rw [hD, hks] at hso
  rw [hD] at hfew
  have hq2 : ∀ W M, S w0 W (engO b bs k e :: M) → W.cell? ⟨blkOf bs i, 6, none⟩ = some (.map (some (k.v i).mb)) ∧ ∀ kk, (Instr.lookup 101 (.map (some (k.v i).mb)) (.int .i64 kk) false).run Tryz.prog W = .ok (.int .i64 ((mget D kk).getD 0)) W := fun W M h => by
   obtain ⟨g1, g2⟩ := hq W M h
   rw [hD] at g2
   exact ⟨g1, fun kk => Tryz.look1 g2 kk⟩
  have HF := hid hf; have HC := hid hc; have HQ := hid hq2; have HSO := hid hso; have HWR := hid hwr; have HKL := hid hkl
  clear hs hO h1 h2 hf hc hok hi2 hq hkeys hO2 hso hwr hq2 hks hD
  go_enter Tryz.func106, Tryz.ntmps106
  go_wp2_with fail
  with_reducible refine HC.out.mono ?_
  rintro r w' ⟨rfl, rfl⟩
  go_wp2_with fail
  with_reducible refine (keys_any _ _).mono ?_
  rintro r w' ⟨rfl, rfl⟩
  go_wp2_with fail
  with_reducible refine HSO.out.mono ?_
  rintro r w2 ⟨u, rfl, hs2⟩
  have hs3 : S w0 w2 (sl 3 1 u ks.length (icells ks) :: engO b bs k e :: storeP 99 b 0 e.V e.last :: tabP 3 b 11 e.t :: L) := by
   rw [HKL.out]
   exact (hs2.conv (M := blk w.heap.size 101 [.map (some (k.v i).mb)] :: sl 3 1 u D.length (icells ks) :: engO b bs k e :: storeP 99 b 0 e.V e.last :: tabP 3 b 11 e.t :: L) (by simp only [all]; ac_rfl)).tail
  obtain ⟨au, cu, rfl, hcu, hcu2, _⟩ := hs3.sl_val
  have hkn : ks.length ≤ 10 := by rw [HKL.out]; exact hfew
  have H3 := hid (S.sl_nil (e := 91) (size := 2) hs3)
  clear hs2 hs3 HC HSO HKL hfew hcu2
  go_wp2_with fail
  clear c6
  go_loopw [8, 27] (fun ov c wr => ∃ j : Nat, j ≤ ks.length ∧ c = .int .i64 j ∧ S w0 wr (sl 91 2 ov j (pcells ((ks.take j).map fun k => (k, (mget D k).getD 0))) :: sl 3 1 (.slice au ks.length cu) ks.length (icells ks) :: engO b bs k e :: storeP 99 b 0 e.V e.last :: tabP 3 b 11 e.t :: L)) (fun _ c _ => ks.length - (intOf c).toNat)
  case atStart => exact ⟨0, Nat.zero_le _, rfl, H3.out⟩
  case round =>
   rename World => wr
   obtain ⟨j, hj, rfl, hsr⟩ := hrel
   clear H3
   by_cases hlt : j < ks.length
   ·have hp : ks[j]? = some ks[j] := by simp [hlt]
    generalize ks[j] = kk at hp
    obtain ⟨g, og, rfl, _, d0⟩ := hsr.swap.sl_int hp
    obtain ⟨ao, co, rfl, hco, hco2, _⟩ := hsr.sl_val
    unfold maxLen at hco2
    obtain ⟨c6, l6⟩ := HQ.out _ _ hsr.rot3
    replace l6 := l6 kk
    have hst : (ks.take (j + 1)).map (fun k => (k, (mget D k).getD 0)) = (ks.take j).map (fun k => (k, (mget D k).getD 0)) ++ [(kk, (mget D kk).getD 0)] := by rw [take_succ_get hp, List.map_append]; rfl
    have hpl : (pcells ((ks.take j).map fun k => (k, (mget D k).getD 0))).length = j * 2 := hsr.sl_len
    generalize (ks.take j).map (fun k => (k, (mget D k).getD 0)) = O at *
    generalize (mget D kk).getD 0 = vv at *
    obtain ⟨i0, hi0, hz0, hz1, hz2⟩ := info_parts Tryz.info91
    have hs5 := hsr.alloc #[.int .i64 kk, .int .i64 vv] 91
    have hn5 := news_blk hs5
    have H5 := hid hs5.tail; have HN := hid hn5; have HST := hid hst; have HPL := hid hpl
    clear hsr hs5 hn5 hst hp hpl
    go_wp2_with (at_builtin; refine wpList_append rfl (.tmp 31) (.tmp 40) 70 rfl 91 i0 _ 2 16 Tryz.underlying70 hi0 hz0 hz1 hz2 rfl (by decide) H5.out rfl (some ⟨wr.heap.size, 0, none⟩) 1 1 [.int .i64 kk, .int .i64 vv] rfl rfl HN.out (by simp [Value.oneCell']) (by unfold maxLen; omega) (by omega) ?_; intro v1 w5 hs6; have H6 := hid hs6; clear hs6)
    go_roundw
    case rel => exact ⟨j + 1, by omega, by go_num, by rw [HST.out, pcells_append]; exact H6.out⟩
    case measure => simp [intOf]; omega
   ·obtain rfl : j = ks.length := by omega
    rw [List.take_length] at hsr
    have H4 := hid hsr
    clear hsr
    go_wp2_with fail
    go_ret2
    refine ⟨_, by rw [HF.out]; rfl, ?_⟩
    rw [HF.out, HWR.out, List.length_map]
    have h6 := H4.out.conv (M := sl 3 1 (.slice au ks.length cu) ks.length (icells ks) :: storeP 99 b 0 e.V e.last :: tabP 3 b 11 e.t :: engO b bs k e :: sl 91 2 _ ks.length (pcells (ks.map fun k => (k, (mget D k).getD 0))) :: L) (by simp only [all]; ac_rfl)
    exact (S.eng_shut h6.tail).swap
end Go.Proofs.YtdlkjppppdminaaGreatDoor
/- Transactions at the same time: what holds of an engine is kept by Commit, Abort, Sweep. No walk in sight. -/
namespace Go.Proofs.YtdlkjppppdminaaGreatDoor
open Go Go.RowKit Go.Sep
variable {e : Eng} {i j : Nat} {N M : Nat} {U : List Task}
theorem put1_row {n : Nat} {at_ : Int} {V : List Vers} (p : Int × Int) (h : ∀ vs ∈ V, vs.length ≤ n ∨ (vs.length ≤ n + 1 ∧ vs.getLast?.map (·.1) = some at_)) :
  ∀ vs ∈ put1 at_ V p, vs.length ≤ n ∨ (vs.length ≤ n + 1 ∧ vs.getLast?.map (·.1) = some at_) := by
 intro vs hvs
 unfold put1 at hvs
 rcases List.mem_or_eq_of_mem_set hvs with h1 | rfl
 ·exact h vs h1
 ·have hv : (((V[p.1.toNat]?).getD []).length ≤ n ∨ (((V[p.1.toNat]?).getD []).length ≤ n + 1 ∧ ((V[p.1.toNat]?).getD []).getLast?.map (·.1) = some at_)) := by
   cases hg : V[p.1.toNat]? with
   | none => left; simp
   | some x => exact h x (List.mem_of_getElem? hg)
  generalize (V[p.1.toNat]?).getD [] = x at hv
  split
  ·rename_i hl
   have hne : x ≠ [] := by rintro rfl; simp at hl
   have := List.length_pos_iff.2 hne
   right
   refine ⟨?_, by simp⟩
   rw [List.length_append, List.length_dropLast, List.length_singleton]
   omega
  ·rename_i hl
   right
   refine ⟨?_, by simp⟩
   rw [List.length_append, List.length_singleton]
   rcases hv with hv | hv
   ·omega
   ·exact absurd hv.2 hl
theorem putAll_row {n : Nat} {at_ : Int} (l : Vers) : ∀ {V : List Vers}, (∀ vs ∈ V, vs.length ≤ n ∨ (vs.length ≤ n + 1 ∧ vs.getLast?.map (·.1) = some at_)) → ∀ vs ∈ putAll at_ V l, vs.length ≤ n ∨ (vs.length ≤ n + 1 ∧ vs.getLast?.map (·.1) = some at_) := by
 induction l with
 | nil => intro V h; simpa [putAll] using h
 | cons p l ih => intro V h vs hvs; exact ih (put1_row p h) vs hvs
theorem OkT.restyle (h : OkT N e U) (hi : i < e.txs.length) (hs : (e.tx i).state = 3) (c : Int) {V' : List Vers} {last' : Int} {wr' : List (Int × Int)} {hist' : List Op1} (hV : V'.length = 10) (hrows : ∀ vs ∈ V', (vs.length : Int) ≤ e.count + 1) (hlast : 0 ≤ last' ∧ last' ≤ 1099511627776)
  (hwr : ∀ k v, mget wr' k = some v → mget e.wr k = some v ∨ v = (i : Int) + 1) (hwrl : (wr'.length : Int) ≤ e.count) (hhist : (hist'.length : Int) ≤ e.count * ((N : Int) + 10)) :
  OkT N (({ e with V := V', last := last', wr := wr', hist := hist' } : Eng).upd i fun x => { x with state := 2, why := c }) U := by
 obtain ⟨Q, hQ⟩ := h.tab
 generalize he1 : ({ e with V := V', last := last', wr := wr', hist := hist' } : Eng) = e1
 have htxe : ∀ j, e1.tx j = e.tx j := fun j => by rw [← he1]; rfl
 have hl1 : e1.txs.length = e.txs.length := by rw [← he1]
 have hlen : (e1.upd i fun x => { x with state := 2, why := c }).txs.length = e.txs.length := by rw [Eng.upd_len, hl1]
 have hi1 : i < e1.txs.length := by omega
 have hne : ∀ j, j ≠ i → (e1.upd i fun x => { x with state := 2, why := c }).tx j = e.tx j := fun j hj => by rw [Eng.upd_ne (Ne.symm hj), htxe]
 have hself : (e1.upd i fun x => { x with state := 2, why := c }).tx i = { e.tx i with state := 2, why := c } := by rw [Eng.upd_self hi1, htxe]
 have hm1 := Eng.many_upd hi1 Tx.alive (fun x => { x with state := 2, why := c })
 have hm2 := Eng.many_upd hi1 Tx.waits (fun x => { x with state := 2, why := c })
 rw [if_neg (by rw [htxe]; simp [Tx.alive, hs]), if_neg (by simp [Tx.alive])] at hm1
 rw [if_neg (by rw [htxe]; simp [Tx.waits, hs]), if_neg (by simp [Tx.waits])] at hm2
 have hop : (e1.upd i fun x => { x with state := 2, why := c }).open_ = e.open_ := by
  have : e1.many Tx.alive = e.open_ := by rw [← he1]; rfl
  unfold Eng.many at hm1 this; unfold Eng.open_ at *; omega
 have hwt : (e1.upd i fun x => { x with state := 2, why := c }).many Tx.waits = e.many Tx.waits := by
  have : e1.many Tx.waits = e.many Tx.waits := by rw [← he1]; rfl
  omega
 have hQi : ∀ k, ∀ x ∈ Q k, x.toNat - 1 ≠ i := fun k x hx he => by
  have := hQ.alive k x hx
  rw [he] at this
  simp [Tx.alive, hs] at this
 have hcn : (e1.upd i fun x => { x with state := 2, why := c }).count = e.count := by rw [← he1]; rfl
 refine ⟨by rw [hlen]; exact h.few, by rw [← he1]; exact hV, ?_, fun k v hk => ?_, ⟨Q, ?_, hQ.rk, ?_, fun k x hx => by rw [hlen]; exact hQ.key k x hx, fun k x hx => by rw [hne _ (hQi k x hx)]; exact hQ.alive k x hx, fun k x hx => by rw [hne _ (hQi k x (List.mem_of_mem_tail hx))]; exact hQ.waits k x hx⟩, fun j hj hs' => ?_, by rw [hop]; exact h.six, by rw [hop, hlen, hcn]; exact h.cnt, fun vs hv => ?_, ?_, by rw [← he1]; exact hlast, ?_, ?_, ?_, fun t ht => ?_, h.apart⟩
 ·rw [hlen]
  refine Eng.upd_all (by rw [← he1]; exact h.txs) fun _ => ?_
  have := h.at hi
  rw [htxe]
  exact ⟨by simp, this.refs, this.want, this.own, this.keys⟩
 ·have hk' : mget wr' k = some v := by rw [← he1] at hk; exact hk
  rw [hlen]
  rcases hwr k v hk' with g | rfl
  ·obtain ⟨g1, g2, g3⟩ := h.wr k v g
   rw [hne]
   ·exact ⟨g1, g2, g3⟩
   ·intro e2; rw [e2, hs] at g3; omega
  ·rw [show ((i : Int) + 1).toNat - 1 = i by omega, hself]
   exact ⟨by omega, by omega, rfl⟩
 ·rw [← he1]; exact hQ.tab
 ·rw [← he1]; exact hQ.hold
 ·rw [hlen] at hj
  have hji : j ≠ i := by rintro rfl; rw [hself] at hs'; cases hs'
  rw [hne j hji] at hs'
  rcases h.all j hj hs' with g | g
  ·left; rw [← he1]; exact g
  ·exact .inr g
 ·rw [hcn]; rw [← he1] at hv; exact hrows vs hv
 ·rw [hcn, ← he1]; exact hwrl
 ·rw [hcn, ← he1]; exact hhist
 ·refine Eng.upd_all (p := fun x => x.reads.length ≤ N) (by rw [← he1]; exact h.reads) fun _ => ?_
  rw [htxe]; exact h.reads (e.tx i) (Eng.tx_mem hi)
 ·rw [hwt]
  refine Eng.upd_all (p := fun x => x.fore.length + 200 * e.many Tx.waits + slacks U ≤ N ∧ x.aft.length + 200 * e.many Tx.waits + slacks U ≤ N) (by rw [← he1]; exact h.fits) fun _ => ?_
  rw [htxe]; exact h.fits (e.tx i) (Eng.tx_mem hi)
 ·have ht' := h.ok t ht
  have hti : t.who ≠ i := by
   intro he
   cases t with
   | hand w => have := (ht'.hand w rfl).2.1; rw [he, hs] at this; omega
   | put i' w => have := (ht'.put i' w rfl).1; have e2 : i' = i := he; rw [e2, hs] at this; omega
   | ask i' key l => have := (ht'.ask i' key l rfl).1; have e2 : i' = i := he; rw [e2, hs] at this; omega
  refine ⟨by rw [hlen]; exact ht'.lt, fun w hw => ?_, fun i' w hw => ?_, fun i' key l hw => ?_⟩
  ·rw [hne _ hti]
   have := ht'.hand w hw
   rw [← he1]; exact this
  ·subst hw
   rw [hne i' hti]
   have := ht'.put i' w rfl
   rw [← he1]; exact this
  ·subst hw
   rw [hne i' hti, hlen]
   have := ht'.ask i' key l rfl
   rw [← he1]; exact this
def Eng.told (e : Eng) (i : Nat) : Eng := ({ e with hist := e.hist ++ toldL ((i : Int) + 1) (e.tx i) } : Eng).installed ((i : Int) + 1) (e.tx i).written
def Eng.over2 (e : Eng) (i : Nat) : Eng := { (e.told i).upd i (fun x => { x with state := 2, ended := e.count + 1 }) with count := e.count + 1 }
theorem told_txs (e : Eng) (i : Nat) : (e.told i).txs = e.txs ∧ (e.told i).t = e.t ∧ (e.told i).count = e.count := by
 unfold Eng.told Eng.installed
 split
 ·exact ⟨rfl, rfl, rfl⟩
 ·split <;> exact ⟨rfl, rfl, rfl⟩
theorem over2_lets (e : Eng) (i : Nat) : (e.over2 i).lets i = ({ e.left i 0 with V := (e.told i).V, last := (e.told i).last, wr := (e.told i).wr, hist := (e.told i).hist } : Eng).upd i fun x => { x with state := 2, why := (e.tx i).why } := by
 obtain ⟨h1, h2, h3⟩ := told_txs e i
 unfold Eng.over2 Eng.lets Eng.left Eng.mark Eng.upd
 rw [h1, h2]
 simp only [Eng.mk.injEq, and_true, true_and]
 refine ⟨rfl, ?_, rfl⟩
 apply List.ext_getElem?
 intro j
 simp only [List.getElem?_modify, Eng.lets]
 by_cases h : i = j
 ·subst h
  cases hx : e.txs[i]? with
  | none => simp
  | some x => simp [Eng.tx, hx]
 ·simp [h]
theorem over2_heirs (e : Eng) (i : Nat) : (e.over2 i).heirs i = e.heirs i := by
 unfold Eng.heirs Eng.over2
 show (tbDrop (e.told i).t _).2 = _
 rw [(told_txs e i).2.1]
theorem OkT.over2 (h : OkT N e []) (hi : i < e.txs.length) (ha : (e.tx i).alive = true) : OkT N ((e.over2 i).lets i) (((e.over2 i).heirs i).map .hand) ∧ (e.over2 i).open_ + 1 = e.open_ := by
 obtain ⟨h1, h2⟩ := h.left hi ha (by simp) 0
 rw [List.append_nil] at h1
 have hst : ((e.left i 0).tx i).state = 3 := by show ((e.mark i 0).tx i).state = 3; rw [Eng.mark_tx, if_pos ⟨rfl, hi⟩]
 have hlen : (e.left i 0).txs.length = e.txs.length := Eng.mark_len e i 0
 have hw := written_len (e.tx i)
 have hfew := own_few h hi
 have hrd := h.reads _ (Eng.tx_mem hi)
 have hcount : (e.left i 0).count = e.count + 1 := rfl
 have hold : ∀ vs ∈ e.V, (vs.length : Int) ≤ e.count + 1 := h.rows
 have hlast := h.last
 have hrowsN : ∀ vs ∈ e.V, vs.length ≤ (e.count + 1).toNat ∨ (vs.length ≤ (e.count + 1).toNat + 1 ∧ vs.getLast?.map (·.1) = some (e.last + 1)) := fun vs hv => by
  left; have := hold vs hv; omega
 have hcnt := h.cnt
 have htl : ((e.hist ++ toldL ((i : Int) + 1) (e.tx i)).length : Int) ≤ (e.count + 1) * ((N : Int) + 10) := by
  have := h.hist
  rw [List.length_append]
  have e1 : (toldL ((i : Int) + 1) (e.tx i)).length ≤ N + 10 := by unfold toldL; rw [List.length_append, List.length_map, List.length_map]; omega
  rw [Int.add_mul]
  omega
 refine ⟨?_, ?_⟩
 ·rw [over2_heirs, over2_lets]
  refine h1.restyle (by omega) hst _ ?_ (fun vs hv => ?_) ?_ (fun k v hk => ?_) ?_ ?_
  ·unfold Eng.told Eng.installed
   split
   ·exact h.v10
   ·split
    ·show (putAll _ e.V _).length = 10
     rw [putAll_length]; exact h.v10
    ·exact h.v10
  ·rw [hcount]
   unfold Eng.told Eng.installed at hv
   split at hv
   ·have := hold vs hv; omega
   ·split at hv
    ·have hv' : vs ∈ putAll (e.last + 1) e.V (e.tx i).written := hv
     have := putAll_row _ hrowsN vs hv'
     omega
    ·have := hold vs hv; omega
  ·unfold Eng.told Eng.installed
   split
   ·exact hlast
   ·split
    ·rename_i hok
     unfold instOk' at hok
     simp only [Bool.and_eq_true, decide_eq_true_eq] at hok
     show 0 ≤ e.last + 1 ∧ e.last + 1 ≤ 1099511627776
     have := hok.1.2
     exact ⟨by omega, this⟩
    ·exact hlast
  ·show mget e.wr k = some v ∨ v = (i : Int) + 1
   unfold Eng.told Eng.installed at hk
   split at hk
   ·exact .inl hk
   ·have hk' : mget (mput e.wr (e.last + 1) ((i : Int) + 1)) k = some v := by split at hk <;> exact hk
    rw [mget_put] at hk'
    split at hk'
    ·exact .inr (Option.some.inj hk').symm
    ·exact .inl hk'
  ·rw [hcount]
   have h5 := h.wrs
   have h6 := length_put_le e.wr (e.last + 1) ((i : Int) + 1)
   unfold Eng.told Eng.installed
   split
   ·show (e.wr.length : Int) ≤ _; omega
   ·have : ((mput e.wr (e.last + 1) ((i : Int) + 1)).length : Int) ≤ e.count + 1 := by omega
    split <;> exact this
  ·rw [hcount]
   have : (e.told i).hist = e.hist ++ toldL ((i : Int) + 1) (e.tx i) := by
    unfold Eng.told Eng.installed
    split
    ·rfl
    ·split <;> rfl
   rw [this]; exact htl
 ·have h3 : ((e.over2 i).lets i).open_ = (e.left i 0).open_ := by
   rw [over2_lets]
   have hm := Eng.many_upd (e := ({ e.left i 0 with V := (e.told i).V, last := (e.told i).last, wr := (e.told i).wr, hist := (e.told i).hist } : Eng)) (i := i) (by show i < (e.left i 0).txs.length; omega) Tx.alive (fun x => { x with state := 2, why := (e.tx i).why })
   have ht : (({ e.left i 0 with V := (e.told i).V, last := (e.told i).last, wr := (e.told i).wr, hist := (e.told i).hist } : Eng).tx i).state = 3 := hst
   rw [if_neg (by simp [Tx.alive, ht]), if_neg (by simp [Tx.alive])] at hm
   exact hm
  have h4 : ((e.over2 i).lets i).open_ = (e.over2 i).open_ := rfl
  omega
theorem commit_eq (e : Eng) (i : Nat) (h : e.ready ((i : Int) + 1) = 0) : e.commit ((i : Int) + 1) = ((e.over2 i).frees i, 0) := by
 have hi2 : ((i : Int) + 1).toNat - 1 = i := by omega
 unfold Eng.commit
 rw [if_neg (by rw [h]; decide)]
 simp only [hi2]
 rfl
theorem frees_kept (h : OkT N e []) (hi : i < e.txs.length) (ha : (e.tx i).alive = true) : OkT N ((e.over2 i).frees i) [] := by
 obtain ⟨h1, h2⟩ := h.over2 hi ha
 have := (freesL_ok (goesOk (e.over2 i).open_) ((e.over2 i).heirs i) N ((e.over2 i).lets i) [] (by rw [List.append_nil]; exact h1) (Nat.le_refl _)).1
 exact this
theorem ready_at {n : Int} (h : e.ready n = 0) : ∃ i : Nat, n = (i : Int) + 1 ∧ i < e.txs.length ∧ (e.tx i).state = 0 := by
 unfold Eng.ready at h
 split at h
 ·rename_i hx; exact absurd h hx
 ·rename_i hx
  obtain ⟨i, rfl, hi, hst⟩ := err_num (Decidable.not_not.1 hx)
  exact ⟨i, rfl, hi, hst rfl⟩
theorem ready_13 {n : Int} (h : e.ready n = 13) : ∃ i : Nat, n = (i : Int) + 1 ∧ i < e.txs.length ∧ (e.tx i).state = 0 := by
 unfold Eng.ready at h
 split at h
 ·rcases e.err_cases n true with ⟨h1, _⟩ | ⟨j, hj, hlt, ⟨h1, _⟩ | ⟨h1, h2⟩⟩ <;> omega
 ·rename_i hx
  obtain ⟨i, rfl, hi, hst⟩ := err_num (Decidable.not_not.1 hx)
  exact ⟨i, rfl, hi, hst rfl⟩
theorem OkT.committed (h : OkT N e []) (n : Int) : OkT N (e.commit n).1 [] := by
 by_cases h0 : e.ready n = 0
 ·obtain ⟨i, rfl, hi, hs⟩ := ready_at h0
  rw [commit_eq e i h0]
  exact frees_kept h hi (by simp [Tx.alive, hs])
 ·unfold Eng.commit
  rw [if_pos h0]
  simp only
  split
  ·rename_i h13
   obtain ⟨i, rfl, hi, hs⟩ := ready_13 h13
   rw [show ((i : Int) + 1).toNat - 1 = i by omega]
   exact goes_kept h hi (by simp [Tx.alive, hs]) 13
  ·exact h
theorem OkT.aborted (h : OkT N e []) (n : Int) : OkT N (e.abort n).1 [] := by
 unfold Eng.abort
 split
 ·exact h
 ·rename_i hx
  obtain ⟨i, rfl, hi, _⟩ := err_num (Decidable.not_not.1 hx)
  rw [show ((i : Int) + 1).toNat - 1 = i by omega]
  split
  ·exact h
  ·rename_i hs
   exact goes_kept h hi (by simp only [Tx.alive, decide_eq_true_eq]; omega) 0
theorem swept_le (at_ : Int) (vs : Vers) : (swept at_ vs).length ≤ vs.length := by unfold swept; rw [List.length_drop]; omega
theorem OkT.swept (h : OkT N e []) : OkT N e.sweep.1 [] :=
 ⟨h.few, by show (e.V.map _).length = 10; rw [List.length_map]; exact h.v10, h.txs, h.wr, h.tab.imp fun Q hQ => ⟨hQ.tab, hQ.rk, hQ.hold, hQ.key, hQ.alive, hQ.waits⟩, h.all, h.six, h.cnt, fun vs hv => by
  obtain ⟨vs', hv', rfl⟩ := List.mem_map.1 hv
  have := h.rows vs' hv'
  have := swept_le e.floor vs'
  show _ ≤ e.count + 1
  omega, h.wrs, h.last, h.hist, h.reads, h.fits, by simp, by simp⟩
end Go.Proofs.YtdlkjppppdminaaGreatDoor
/- Transactions at the same time: how to show what holds through all that one step of an engine brings with it; what stays. No walk in sight. -/
namespace Go.Proofs.YtdlkjppppdminaaGreatDoor
open Go Go.RowKit Go.Sep
section
variable {e e' e0 : Eng} {i j : Nat} {N : Nat} {T U : List Task}
structure Rule (P : Eng → List Task → Prop) : Prop where
 hand : ∀ (N : Nat) (e : Eng) (w : Int × Int) (T : List Task), OkT N e (.hand w :: T) → P e (.hand w :: T) → P (e.opens (w.2.toNat - 1)) (.put (w.2.toNat - 1) (e.tx (w.2.toNat - 1)).want :: T)
 late : ∀ (N : Nat) (e : Eng) (i : Nat) (w : Int × Int) (T : List Task), OkT N e (.put i w :: T) → e.late i w.1 → P e (.put i w :: T) → P (e.left i 10) ((e.heirs i).map .hand ++ T)
 put : ∀ (N : Nat) (e : Eng) (i : Nat) (w : Int × Int) (T : List Task), OkT N e (.put i w :: T) → ¬ e.late i w.1 → (e.tx i).level ≠ 2 → P e (.put i w :: T) → P (e.wput i w) T
 puts : ∀ (N : Nat) (e : Eng) (i : Nat) (w : Int × Int) (T : List Task), OkT N e (.put i w :: T) → ¬ e.late i w.1 → (e.tx i).level = 2 → P e (.put i w :: T) → P (e.wput i w) (.ask i w.1 (List.range e.txs.length) :: T)
 asked : ∀ (N : Nat) (e : Eng) (i : Nat) (key : Int) (T : List Task), OkT N e (.ask i key [] :: T) → P e (.ask i key [] :: T) → P e T
 skip : ∀ (N : Nat) (e : Eng) (i j : Nat) (key : Int) (l : List Nat) (T : List Task), OkT N e (.ask i key (j :: l) :: T) → skips e i key j = true → P e (.ask i key (j :: l) :: T) → P e (.ask i key l :: T)
 note : ∀ (N : Nat) (e : Eng) (i j : Nat) (key : Int) (l : List Nat) (T : List Task), OkT N e (.ask i key (j :: l) :: T) → skips e i key j = false → (e.note j i).bad j i = false → P e (.ask i key (j :: l) :: T) → P (e.note j i) (.ask i key l :: T)
 wrong : ∀ (N : Nat) (e : Eng) (i j : Nat) (key : Int) (l : List Nat) (T : List Task), OkT N e (.ask i key (j :: l) :: T) → skips e i key j = false → (e.note j i).bad j i = true → P e (.ask i key (j :: l) :: T) → P ((e.note j i).left i 13) (((e.note j i).heirs i).map .hand ++ T)
theorem OkT.put_lt {w : Int × Int} (h : OkT N e (.put i w :: T)) : i < e.txs.length ∧ (e.tx i).alive = true := by
 have hk := h.ok _ (List.mem_cons_self ..)
 exact ⟨hk.lt, by simp [Tx.alive, (hk.put _ _ rfl).1]⟩
theorem OkT.ask_lt {key : Int} {l : List Nat} (h : OkT N e (.ask i key l :: T)) : i < e.txs.length ∧ (e.tx i).alive = true := by
 have hk := h.ok _ (List.mem_cons_self ..)
 exact ⟨hk.lt, by simp [Tx.alive, (hk.ask _ _ _ rfl).1]⟩
theorem OkT.hand_lt {w : Int × Int} (h : OkT N e (.hand w :: T)) : w.2.toNat - 1 < e.txs.length ∧ (e.tx (w.2.toNat - 1)).alive = true ∧ (e.tx (w.2.toNat - 1)).state = 1 ∧ ((w.2.toNat - 1 : Nat) : Int) + 1 = w.2 := by
 have hk := h.ok _ (List.mem_cons_self ..)
 have h2 := hk.hand _ rfl
 have h3 : (e.tx (w.2.toNat - 1)).state = 1 := h2.2.1
 exact ⟨hk.lt, by simp [Tx.alive, h3], h3, by have := h2.1; omega⟩
theorem Rule.run {P : Eng → List Task → Prop} (hP : Rule P) (hr : Runs e T e') : ∀ N, OkT N e T → P e T → P e' [] := by
 induction hr with
 | done e => exact fun N h p => p
 | hand _ ih => exact fun N h p => ih N h.hand (hP.hand N _ _ _ h p)
 | late hl _ ih => exact fun N h p => ih N (OkT.left (h.tail (by simp)) h.put_lt.1 h.put_lt.2 h.who_ne 10).1 (hP.late N _ _ _ _ h hl p)
 | put hl h2 _ ih => exact fun N h p => ih N h.wput.1 (hP.put N _ _ _ _ h hl h2 p)
 | puts hl h2 _ ih => exact fun N h p => ih N (h.wput.2 h2) (hP.puts N _ _ _ _ h hl h2 p)
 | asked _ ih => exact fun N h p => ih N (h.tail (by simp)) (hP.asked N _ _ _ _ h p)
 | skip hs _ ih => exact fun N h p => ih N h.skipped (hP.skip N _ _ _ _ _ _ h hs p)
 | note hs hb _ ih => exact fun N h p => ih N h.noted (hP.note N _ _ _ _ _ _ h hs hb p)
 | wrong hs hb _ ih =>
  intro N h p
  have hn := h.noted
  exact ih N (OkT.left (hn.tail (by simp)) hn.ask_lt.1 hn.ask_lt.2 hn.who_ne 13).1 (hP.wrong N _ _ _ _ _ _ h hs hb p)
theorem goes_run (h : OkT N e []) (hi : i < e.txs.length) (ha : (e.tx i).alive = true) (why : Int) : Runs (e.left i why) ((e.heirs i).map .hand) (e.goes i why) := by
 have := (goesOk e.open_ N e i why [] h hi ha (by simp) (Nat.le_refl _)).2.2 _ (.done _)
 rw [List.append_nil] at this
 exact this
theorem Rule.goes {P : Eng → List Task → Prop} (hP : Rule P) (h : OkT N e []) (hi : i < e.txs.length) (ha : (e.tx i).alive = true) (why : Int) (hp : P (e.left i why) ((e.heirs i).map .hand)) : P (e.goes i why) [] := by
 have h1 := (h.left hi ha (by simp) why).1
 rw [List.append_nil] at h1
 exact hP.run (goes_run h hi ha why) N h1 hp
theorem Rule.putsE {P : Eng → List Task → Prop} (hP : Rule P) {w : Int × Int} (h : OkT N e [.put i w]) (hp : P e [.put i w]) : P (e.puts i w) [] :=
 hP.run ((putsG_ok (goesOk e.open_) h (Nat.le_refl _)).2.2 _ (.done _)) N h hp
theorem Rule.frees {P : Eng → List Task → Prop} (hP : Rule P) (h : OkT N e []) (hi : i < e.txs.length) (ha : (e.tx i).alive = true) (hp : P ((e.over2 i).lets i) (((e.over2 i).heirs i).map .hand)) : P ((e.over2 i).frees i) [] := by
 obtain ⟨h1, _⟩ := h.over2 hi ha
 have h2 := (freesL_ok (goesOk (e.over2 i).open_) ((e.over2 i).heirs i) N ((e.over2 i).lets i) [] (by rw [List.append_nil]; exact h1) (Nat.le_refl _)).2.2 _ (.done _)
 rw [List.append_nil] at h2
 exact hP.run h2 N h1 hp
theorem sawNew_keep {P : Eng → Prop} (hn : ∀ e a b, P e → P (e.note a b)) : ∀ (l : List Int) (e : Eng), P e → P (sawNew i l e).1
 | [], e, h => h
 | a :: l, e, h => by
  unfold sawNew
  dsimp only
  split
  ·split
   ·exact hn _ _ _ h
   ·exact sawNew_keep hn l _ (hn _ _ _ h)
  ·exact sawNew_keep hn l e h
theorem sawOpen_keep {P : Eng → Prop} (hn : ∀ e a b, P e → P (e.note a b)) {key : Int} : ∀ (l : List Nat) (e : Eng), P e → P (sawOpen i key l e)
 | [], e, h => h
 | a :: l, e, h => by
  unfold sawOpen
  split
  ·exact sawOpen_keep hn l _ (hn _ _ _ h)
  ·exact sawOpen_keep hn l e h
theorem sees_keep {P : Eng → Prop} (hn : ∀ e a b, P e → P (e.note a b)) {key : Int} (h : P e) : P (e.sees i key).1 := by
 unfold Eng.sees
 dsimp only
 split
 ·exact sawOpen_keep hn _ _ (sawNew_keep hn _ _ h)
 ·exact sawNew_keep hn _ _ h
structure Stays (e e' : Eng) : Prop where
 V : e'.V = e.V
 last : e'.last = e.last
 wr : e'.wr = e.wr
 hist : e'.hist = e.hist
 len : e'.txs.length = e.txs.length
 fix : ∀ j, (e'.tx j).level = (e.tx j).level ∧ (e'.tx j).start = (e.tx j).start ∧ (e'.tx j).begun = (e.tx j).begun ∧ (e'.tx j).reads = (e.tx j).reads
 over : ∀ j, (e.tx j).alive = false → (e'.tx j).state = (e.tx j).state ∧ (e'.tx j).ended = (e.tx j).ended ∧ (e'.tx j).writes = (e.tx j).writes
 live : ∀ j, (e.tx j).alive = true → (e'.tx j).alive = true ∨ ((e'.tx j).state = 3 ∧ e.count < (e'.tx j).ended)
 count : e.count ≤ e'.count
theorem Stays.refl (e : Eng) : Stays e e := ⟨rfl, rfl, rfl, rfl, rfl, fun _ => ⟨rfl, rfl, rfl, rfl⟩, fun _ _ => ⟨rfl, rfl, rfl⟩, fun _ h => .inl h, Int.le_refl _⟩
theorem alive_of_state {x y : Tx} (h : x.state = y.state) : x.alive = y.alive := by unfold Tx.alive; rw [h]
theorem Stays.upd (h : Stays e0 e) (ha : (e.tx i).alive = true) (f : Tx → Tx) (hf : ∀ x, (f x).level = x.level ∧ (f x).start = x.start ∧ (f x).begun = x.begun ∧ (f x).reads = x.reads)
  (hl : (f (e.tx i)).alive = true ∨ ((f (e.tx i)).state = 3 ∧ e.count < (f (e.tx i)).ended)) : Stays e0 (e.upd i f) := by
 refine ⟨h.V, h.last, h.wr, h.hist, by rw [Eng.upd_len]; exact h.len, fun j => ?_, fun j hj => ?_, fun j hj => ?_, h.count⟩
 ·rw [Eng.upd_keep (·.level) f (fun x => (hf x).1), Eng.upd_keep (·.start) f (fun x => (hf x).2.1), Eng.upd_keep (·.begun) f (fun x => (hf x).2.2.1), Eng.upd_keep (·.reads) f (fun x => (hf x).2.2.2)]
  exact h.fix j
 ·have hji : i ≠ j := by
   intro e1; subst e1
   rw [alive_of_state (h.over i hj).1, hj] at ha
   cases ha
  rw [Eng.upd_ne hji]; exact h.over j hj
 ·rw [Eng.upd_tx]
  split
  ·rename_i hc
   obtain ⟨rfl, _⟩ := hc
   rcases hl with hl | hl
   ·exact .inl hl
   ·exact .inr ⟨hl.1, by have := h.count; omega⟩
  ·exact h.live j hj
theorem Stays.note (h : Stays e0 e) (a b : Nat) : Stays e0 (e.note a b) := by
 have hk : ∀ {β : Type} (g : Tx → β) (_ : ∀ x l, g { x with aft := l } = g x) (_ : ∀ x l, g { x with fore := l } = g x) (j : Nat), g ((e.note a b).tx j) = g (e.tx j) := fun g h1 h2 j => Eng.note_keep g h1 h2 a b j
 refine ⟨h.V, h.last, h.wr, h.hist, by rw [Eng.note_len]; exact h.len, fun j => ?_, fun j hj => ?_, fun j hj => ?_, h.count⟩
 ·rw [hk (·.level) (fun _ _ => rfl) (fun _ _ => rfl), hk (·.start) (fun _ _ => rfl) (fun _ _ => rfl), hk (·.begun) (fun _ _ => rfl) (fun _ _ => rfl), hk (·.reads) (fun _ _ => rfl) (fun _ _ => rfl)]
  exact h.fix j
 ·rw [hk (·.state) (fun _ _ => rfl) (fun _ _ => rfl), hk (·.ended) (fun _ _ => rfl) (fun _ _ => rfl), hk (·.writes) (fun _ _ => rfl) (fun _ _ => rfl)]
  exact h.over j hj
 ·rw [hk (·.alive) (fun _ _ => rfl) (fun _ _ => rfl), hk (·.state) (fun _ _ => rfl) (fun _ _ => rfl), hk (·.ended) (fun _ _ => rfl) (fun _ _ => rfl)]
  exact h.live j hj
theorem Stays.left (h : Stays e0 e) (ha : (e.tx i).alive = true) (why : Int) : Stays e0 (e.left i why) := by
 have h1 := h.upd ha (fun x => { x with state := 3, why := why, ended := e.count + 1 }) (fun _ => ⟨rfl, rfl, rfl, rfl⟩) (.inr ⟨rfl, by show e.count < e.count + 1; omega⟩)
 exact ⟨h1.V, h1.last, h1.wr, h1.hist, h1.len, h1.fix, h1.over, h1.live, by have := h.count; show e0.count ≤ e.count + 1; omega⟩
theorem Stays.opens (h : Stays e0 e) (ha : (e.tx i).alive = true) : Stays e0 (e.opens i) := h.upd ha _ (fun _ => ⟨rfl, rfl, rfl, rfl⟩) (.inl (by simp [Tx.alive]))
theorem Stays.wput (h : Stays e0 e) (ha : (e.tx i).alive = true) (w : Int × Int) : Stays e0 (e.wput i w) := h.upd ha _ (fun _ => ⟨rfl, rfl, rfl, rfl⟩) (.inl (by simpa [Tx.alive] using ha))
theorem same_rule (e0 : Eng) : Rule fun e _ => Stays e0 e where
 hand _ _ _ _ h p := p.opens h.hand_lt.2.1
 late _ _ _ _ _ h _ p := p.left h.put_lt.2 10
 put _ _ _ _ _ h _ _ p := p.wput h.put_lt.2 _
 puts _ _ _ _ _ h _ _ p := p.wput h.put_lt.2 _
 asked _ _ _ _ _ _ p := p
 skip _ _ _ _ _ _ _ _ _ p := p
 note _ _ _ _ _ _ _ _ _ _ p := p.note _ _
 wrong _ _ _ _ _ _ _ h _ _ p := (p.note _ _).left h.noted.ask_lt.2 13
theorem same_goes (h : OkT N e []) (hi : i < e.txs.length) (ha : (e.tx i).alive = true) (why : Int) : Stays e (e.goes i why) := (same_rule e).goes h hi ha why ((Stays.refl e).left ha why)
def Eng.noted (e : Eng) (i : Nat) (key : Int) : Eng := e.upd i fun x => { x with reads := x.reads ++ [(key, (mget e.wr (((readV (e.row key) (e.asOf i)).map (·.1)).getD 0)).getD 0)] }
inductive ReadCase (e : Eng) (n key : Int) : Eng × Int × Int → Prop
 | err (x : Int) (h0 : x ≠ 0) (h8 : x ≠ 8) : ReadCase e n key (e, 0, x)
 | own (i : Nat) (v : Int) (hn : n = (i : Int) + 1) (hi : i < e.txs.length) (hs : (e.tx i).state = 0) (hv : mget (e.tx i).writes key = some v) : ReadCase e n key (e, v, 0)
 | plain (i : Nat) (hn : n = (i : Int) + 1) (hi : i < e.txs.length) (hs : (e.tx i).state = 0) (hv : mget (e.tx i).writes key = none) (hk : keyOk key) (hl : (e.tx i).level ≠ 2) :
   ReadCase e n key (e.noted i key, ((readV (e.row key) (e.asOf i)).map (·.2)).getD 0, if (readV (e.row key) (e.asOf i)).isSome then 0 else 8)
 | seen (i : Nat) (hn : n = (i : Int) + 1) (hi : i < e.txs.length) (hs : (e.tx i).state = 0) (hv : mget (e.tx i).writes key = none) (hk : keyOk key) (hl : (e.tx i).level = 2) (hr : ((e.noted i key).sees i key).2 = true) :
   ReadCase e n key (((e.noted i key).sees i key).1, ((readV (e.row key) (e.asOf i)).map (·.2)).getD 0, if (readV (e.row key) (e.asOf i)).isSome then 0 else 8)
 | gone (i : Nat) (hn : n = (i : Int) + 1) (hi : i < e.txs.length) (hs : (e.tx i).state = 0) (hv : mget (e.tx i).writes key = none) (hk : keyOk key) (hl : (e.tx i).level = 2) (hr : ((e.noted i key).sees i key).2 = false) :
   ReadCase e n key (((e.noted i key).sees i key).1.goes i 13, 0, 13)
theorem err_ne8 (e : Eng) (n : Int) (op : Bool) : e.err n op ≠ 8 := by
 unfold Eng.err
 split
 ·decide
 ·split <;> decide
theorem read_case (e : Eng) (n key : Int) : ReadCase e n key (e.read n key) := by
 unfold Eng.read
 by_cases he : e.err n true ≠ 0
 ·rw [if_pos he]; exact .err _ he (err_ne8 e n true)
 ·rw [if_neg he]
  obtain ⟨i, rfl, hi, hst⟩ := err_num (Decidable.not_not.1 he)
  have hi2 : ((i : Int) + 1).toNat - 1 = i := by omega
  have hst := hst rfl
  simp only [hi2]
  split
  ·rename_i v hv; exact .own i v rfl hi hst hv
  ·rename_i hv
   by_cases hk : keyOk key
   ·rw [if_neg (by simpa using hk)]
    by_cases hl : (e.tx i).level = 2
    ·rw [if_pos hl]
     by_cases hr : ((e.noted i key).sees i key).2 = true
     ·have := ReadCase.seen (n := (i : Int) + 1) i rfl hi hst hv hk hl hr
      unfold Eng.noted at this hr
      rw [if_pos hr]; exact this
     ·have hr' : ((e.noted i key).sees i key).2 = false := by simpa using hr
      have := ReadCase.gone (n := (i : Int) + 1) i rfl hi hst hv hk hl hr'
      unfold Eng.noted at this hr
      rw [if_neg hr]; exact this
    ·rw [if_neg hl]; exact .plain i rfl hi hst hv hk hl
   ·rw [if_pos hk]; exact .err 2 (by decide) (by decide)
def Eng.wanting (e : Eng) (i : Nat) (w : Int × Int) : Eng := e.upd i fun x => { x with want := w }
def Eng.table (e : Eng) (t : Tbl) : Eng := { e with t := t }
def waitT (t : Tbl) (n key : Int) : Tbl := { t with wait := mput t.wait n key, line := mput t.line key (lineAt t key ++ [n]) }
inductive WriteCase (e : Eng) (n key value : Int) : Eng × Bool × Int → Prop
 | err (x : Int) (h0 : x ≠ 0) : WriteCase e n key value (e, false, x)
 | cycle (i : Nat) (hn : n = (i : Int) + 1) (hi : i < e.txs.length) (hs : (e.tx i).state = 0) (hk : keyOk key) (hv : valOk value) : WriteCase e n key value (((e.wanting i (key, value)).table e.t).goes i 11, false, 11)
 | waits (i : Nat) (a : Int) (hn : n = (i : Int) + 1) (hi : i < e.txs.length) (hs : (e.tx i).state = 0) (hk : keyOk key) (hv : valOk value) (hh : mget e.t.hold key = some a) (ha : a ≠ (i : Int) + 1) :
   WriteCase e n key value (((e.wanting i (key, value)).table (waitT e.t ((i : Int) + 1) key)).upd i (fun x => { x with state := 1 }), false, 0)
 | puts (i : Nat) (t' : Tbl) (hn : n = (i : Int) + 1) (hi : i < e.txs.length) (hs : (e.tx i).state = 0) (hk : keyOk key) (hv : valOk value) (ht : t' = { e.t with hold := mput e.t.hold key ((i : Int) + 1) } ∧ mget e.t.hold key = none ∨ t' = e.t ∧ mget e.t.hold key = some ((i : Int) + 1))
   (r : Bool × Int) (hr : if (((((e.wanting i (key, value)).table t').puts i (key, value))).tx i).state = 3 then r.1 = false ∧ r.2 = (((((e.wanting i (key, value)).table t').puts i (key, value))).tx i).why else r = (true, 0)) :
   WriteCase e n key value (((e.wanting i (key, value)).table t').puts i (key, value), r)
theorem write_case (h : OkT N e []) (n key value : Int) : WriteCase e n key value (e.write n key value) := by
 unfold Eng.write
 by_cases he : e.err n true ≠ 0
 ·rw [if_pos he]; exact .err _ he
 ·rw [if_neg he]
  obtain ⟨i, rfl, hi, hst⟩ := err_num (Decidable.not_not.1 he)
  have hi2 : ((i : Int) + 1).toNat - 1 = i := by omega
  have hst := hst rfl
  by_cases hk : keyOk key
  ·rw [if_neg (by simpa using hk)]
   by_cases hv : valOk value
   ·rw [if_neg (by simpa using hv)]
    simp only [hi2]
    have hw := h.wait_none (i := i) (by omega)
    have h0 : ¬ (key < 0 ∨ 10 ≤ key ∨ (i : Int) + 1 < 1) := by have := hk.1; have := hk.2; omega
    have hfin : ∀ t' : Tbl, (t' = { e.t with hold := mput e.t.hold key ((i : Int) + 1) } ∧ mget e.t.hold key = none ∨ t' = e.t ∧ mget e.t.hold key = some ((i : Int) + 1)) →
      WriteCase e ((i : Int) + 1) key value (if (((((e.wanting i (key, value)).table t').puts i (key, value))).tx i).state = 3 then ((((e.wanting i (key, value)).table t').puts i (key, value)), false, (((((e.wanting i (key, value)).table t').puts i (key, value))).tx i).why) else ((((e.wanting i (key, value)).table t').puts i (key, value)), true, 0)) := fun t' ht => by
     split
     ·rename_i hs3; exact .puts i t' rfl hi hst hk hv ht (false, _) (by rw [if_pos hs3]; exact ⟨rfl, rfl⟩)
     ·rename_i hs3; exact .puts i t' rfl hi hst hk hv ht (true, 0) (by rw [if_neg hs3])
    unfold tbAsk
    rw [if_neg h0, hw]
    simp only [Option.isSome_none, Bool.false_eq_true, if_false]
    cases hh : mget e.t.hold key with
    | none =>
     simp only [ne_eq, not_true_eq_false, if_false, Bool.true_eq_false]
     exact hfin _ (.inl ⟨rfl, hh⟩)
    | some a =>
     simp only
     by_cases ha : a = (i : Int) + 1
     ·rw [if_pos ha]
      simp only [ne_eq, not_true_eq_false, if_false, Bool.true_eq_false]
      exact hfin _ (.inr ⟨rfl, by rw [hh, ha]⟩)
     ·rw [if_neg ha]
      by_cases hc : comesRound e.t ((i : Int) + 1) key = true
      ·rw [if_pos hc]
       rw [if_pos (show (11 : Int) ≠ 0 by decide)]
       exact .cycle i rfl hi hst hk hv
      ·rw [if_neg hc]
       simp only [ne_eq, not_true_eq_false, if_false, if_true]
       exact .waits i a rfl hi hst hk hv hh ha
   ·rw [if_pos hv]; exact .err 1 (by decide)
  ·rw [if_pos hk]; exact .err 2 (by decide)
end
end Go.Proofs.YtdlkjppppdminaaGreatDoor
namespace Go.Proofs.YtdlkjppppdminaaGreatDoor
open Go Go.RowKit Go.Sep
theorem mget_none_iff {D : List (Int × Int)} {k : Int} : mget D k = none ↔ k ∉ D.map (·.1) := by
 induction D with
 | nil => simp [mget_nil]
 | cons d D ih =>
  rw [mget_cons, List.map_cons, List.mem_cons]
  by_cases h : d.1 = k
  ·simp [h]
  ·rw [if_neg h, ih]
   have h' : ¬ k = d.1 := fun e => h e.symm
   simp [h']
theorem mem_written {x : Tx} {p : Int × Int} : p ∈ x.written ↔ mget x.writes p.1 = some p.2 := by
 unfold Tx.written
 rw [List.mem_map]
 constructor
 ·rintro ⟨k, hk, rfl⟩
  rw [sortI_mem] at hk
  cases hg : mget x.writes k with
  | none => exact absurd hk (mget_none_iff.1 hg)
  | some v => rfl
 ·intro h
  exact ⟨p.1, by rw [sortI_mem]; exact List.mem_map.2 ⟨_, mget_some h, rfl⟩, by rw [h]; rfl⟩
theorem written_nodup {x : Tx} (h : (x.writes.map (·.1)).Nodup) : (x.written.map (·.1)).Nodup := by
 have : x.written.map (·.1) = sortI (x.writes.map (·.1)) := by unfold Tx.written; rw [List.map_map]; simp [Function.comp_def]
 rw [this]
 exact ((sortI_perm _).nodup_iff).2 h
theorem mget_written {x : Tx} (h : (x.writes.map (·.1)).Nodup) (K : Int) : mget x.written K = mget x.writes K := by
 cases hg : mget x.writes K with
 | some v => exact mget_mem (written_nodup h) (mem_written.2 hg)
 | none =>
  cases hw : mget x.written K with
  | none => rfl
  | some v => rw [mem_written.1 (mget_some hw)] at hg; cases hg
theorem badAt_ok : ∀ {l : Vers} {m : Nat}, (∀ p ∈ l, keyOk p.1 ∧ valOk p.2) → badAt m l = none
 | [], _, _ => rfl
 | p :: l, m, h => by
  unfold badAt
  have h1 := h p (List.mem_cons_self ..)
  rw [if_neg (by simpa using h1.1), if_neg (by simpa using h1.2)]
  exact badAt_ok fun q hq => h q (List.mem_cons_of_mem _ hq)
def rowOf (V : List Vers) (K : Int) : Vers := (V[K.toNat]?).getD []
theorem row_put1 {at_ : Int} {V : List Vers} {q : Int × Int} (hV : V.length = 10) (hq : keyOk q.1) (hlt : ∀ p ∈ rowOf V q.1, p.1 < at_) {K : Int} (hK : keyOk K) :
  rowOf (put1 at_ V q) K = if K = q.1 then rowOf V K ++ [(at_, q.2)] else rowOf V K := by
 have hne : ¬ (((V[q.1.toNat]?).getD []).getLast?.map (·.1)) = some at_ := by
  intro h
  cases hl : ((V[q.1.toNat]?).getD []).getLast? with
  | none => rw [hl] at h; cases h
  | some p =>
   rw [hl] at h
   have h1 := hlt p (List.mem_of_getLast? hl)
   have : p.1 = at_ := by simpa using h
   omega
 unfold put1 rowOf
 simp only [if_neg hne]
 obtain ⟨a1, a2⟩ := hq
 obtain ⟨b1, b2⟩ := hK
 rw [List.getElem?_set]
 by_cases h : K = q.1
 ·subst h
  rw [if_pos rfl, if_pos (by omega), if_pos rfl]
  rfl
 ·rw [if_neg (by omega), if_neg h]
theorem row_putAll {at_ : Int} : ∀ (l : Vers) (V : List Vers), V.length = 10 → (∀ p ∈ l, keyOk p.1) → (l.map (·.1)).Nodup → (∀ q ∈ l, ∀ p ∈ rowOf V q.1, p.1 < at_) → ∀ K, keyOk K →
  rowOf (putAll at_ V l) K = rowOf V K ++ (match mget l K with | some v => [(at_, v)] | none => [])
 | [], V, _, _, _, _, K, _ => by simp [putAll, mget_nil]
 | q :: l, V, hV, hk, hn, hlt, K, hK => by
  rw [List.map_cons, List.nodup_cons] at hn
  have hq := hk q (List.mem_cons_self ..)
  have hr := fun {K'} (h' : keyOk K') => row_put1 hV hq (hlt q (List.mem_cons_self ..)) h'
  have hV' : (put1 at_ V q).length = 10 := by unfold put1; rw [List.length_set]; exact hV
  have hne : ∀ p ∈ l, p.1 ≠ q.1 := fun p hp e1 => hn.1 (by rw [← e1]; exact List.mem_map_of_mem hp)
  have ih := row_putAll l (put1 at_ V q) hV' (fun p hp => hk p (List.mem_cons_of_mem _ hp)) hn.2 (fun p hp r hr2 => by
   rw [hr (hk p (List.mem_cons_of_mem _ hp)), if_neg (hne p hp)] at hr2
   exact hlt p (List.mem_cons_of_mem _ hp) r hr2) K hK
  show rowOf (putAll at_ (put1 at_ V q) l) K = _
  rw [ih, hr hK, mget_cons]
  by_cases h : K = q.1
  ·rw [if_pos h, if_pos h.symm]
   have : mget l K = none := by rw [mget_none_iff, h]; exact hn.1
   rw [this]
   simp
  ·rw [if_neg h, if_neg (fun x => h x.symm)]
theorem newerL_append (a b : Vers) (s : Int) : newerL (a ++ b) s = newerL a s ++ newerL b s := by unfold newerL; rw [List.filter_append, List.map_append]
section
variable {e e' e0 : Eng} {i j : Nat} {N : Nat} {T U : List Task}
def RowsOk (e : Eng) : Prop := ∀ vs ∈ e.V, vs.Pairwise (fun p q => p.1 ≤ q.1) ∧ ∀ p ∈ vs, p.1 ≤ e.last
theorem RowsOk.row (h : RowsOk e) (K : Int) : (e.row K).Pairwise (fun p q => p.1 ≤ q.1) ∧ ∀ p ∈ e.row K, p.1 ≤ e.last := by
 unfold Eng.row
 cases hv : e.V[K.toNat]? with
 | none => simp
 | some vs => exact h vs (List.mem_of_getElem? hv)
theorem told_is (h : OkT N e U) (hi : i < e.txs.length) (hl : e.last ≤ e.count) :
  (e.told i).V = putAll (e.last + 1) e.V (e.tx i).written ∧ (e.told i).last = (if (e.tx i).written = [] then e.last else e.last + 1) ∧ (e.told i).wr = (if (e.tx i).written = [] then e.wr else mput e.wr (e.last + 1) ((i : Int) + 1)) ∧ (e.told i).hist = e.hist ++ toldL ((i : Int) + 1) (e.tx i) := by
 have hx := h.at hi
 have hc := h.cnt
 have hf := h.few
 have hok : instOk' e.last (e.last + 1) (e.tx i).written = true := by
  unfold instOk'
  rw [badAt_ok fun p hp => hx.own p (mget_some (mem_written.1 hp))]
  have : e.last + 1 ≤ 1099511627776 := by omega
  simp [this]
  omega
 unfold Eng.told Eng.installed
 by_cases hw : (e.tx i).written = []
 ·rw [if_pos hw, if_pos hw, if_pos hw, hw]
  exact ⟨rfl, rfl, rfl, rfl⟩
 ·rw [if_neg hw, if_neg hw, if_neg hw]
  simp only
  rw [if_pos hok]
  exact ⟨rfl, rfl, rfl, rfl⟩
theorem told_row (h : OkT N e U) (hi : i < e.txs.length) (hl : e.last ≤ e.count) (hr : RowsOk e) {K : Int} (hK : keyOk K) :
  rowOf (e.told i).V K = e.row K ++ (match mget (e.tx i).writes K with | some v => [(e.last + 1, v)] | none => []) := by
 have hx := h.at hi
 rw [(told_is h hi hl).1, row_putAll _ _ h.v10 (fun p hp => (hx.own p (mget_some (mem_written.1 hp))).1) (written_nodup hx.keys) (fun q _ p hp => by have := (hr.row q.1).2 p hp; omega) K hK, mget_written hx.keys]
 rfl
theorem told_rows (h : OkT N e U) (hi : i < e.txs.length) (hl : e.last ≤ e.count) (hr : RowsOk e) : ∀ vs ∈ (e.told i).V, vs.Pairwise (fun p q => p.1 ≤ q.1) ∧ ∀ p ∈ vs, p.1 ≤ (e.told i).last := by
 have h0 : RelV 0 e.last e.V e.V := ⟨rfl, fun k a b ha hb => by
  rw [ha] at hb; cases hb
  have := hr a (List.mem_of_getElem? ha)
  exact ⟨⟨0, rfl, .inl rfl, this.1⟩, this.2⟩⟩
 obtain ⟨t1, t2, _, _⟩ := told_is h hi hl
 intro vs hvs
 rw [t1] at hvs
 rw [t2]
 by_cases hw : (e.tx i).written = []
 ·rw [hw] at hvs
  rw [if_pos hw]
  exact hr vs hvs
 ·rw [if_neg hw]
  have h1 := RelV.putAll (e.tx i).written h0 (show e.last ≤ e.last + 1 by omega)
  obtain ⟨k, hk⟩ := List.getElem?_of_mem hvs
  obtain ⟨⟨_, _, _, h2⟩, h3⟩ := h1.2 k vs vs hk hk
  exact ⟨h2, h3⟩
theorem told_last (h : OkT N e U) (hi : i < e.txs.length) (hl : e.last ≤ e.count) : e.last ≤ (e.told i).last ∧ (e.told i).last ≤ e.last + 1 ∧ ((e.told i).last = e.last → (e.tx i).written = []) := by
 rw [(told_is h hi hl).2.1]
 split
 ·rename_i hw; exact ⟨by omega, by omega, fun _ => hw⟩
 ·exact ⟨by omega, by omega, fun h => by omega⟩
theorem foldl_floor (s : Int) : ∀ (l : List Tx) (a : Int), l.foldl (fun a x => if x.alive = true ∧ x.level ≠ 0 then min a x.start else a) a ≤ a ∧ ∀ x ∈ l, x.alive = true → x.level ≠ 0 → l.foldl (fun a x => if x.alive = true ∧ x.level ≠ 0 then min a x.start else a) a ≤ x.start
 | [], a => ⟨Int.le_refl _, by simp⟩
 | y :: l, a => by
  simp only [List.foldl_cons]
  obtain ⟨h1, h2⟩ := foldl_floor s l (if y.alive = true ∧ y.level ≠ 0 then min a y.start else a)
  refine ⟨Int.le_trans h1 (by split <;> omega), fun x hx ha hl => ?_⟩
  rcases List.mem_cons.1 hx with rfl | hx
  ·refine Int.le_trans h1 ?_
   rw [if_pos ⟨ha, hl⟩]; omega
  ·exact h2 x hx ha hl
theorem floor_le (hi : i < e.txs.length) (ha : (e.tx i).alive = true) (hl : (e.tx i).level ≠ 0) : e.floor ≤ (e.tx i).start := (foldl_floor 0 _ _).2 _ (Eng.tx_mem hi) ha hl
theorem sweep_row (e : Eng) (K : Int) : e.sweep.1.row K = swept e.floor (e.row K) := by
 unfold Eng.row
 show (((e.V.map (swept e.floor))[K.toNat]?).getD []) = _
 rw [List.getElem?_map]
 cases e.V[K.toNat]? <;> rfl
theorem sweep_rel (h : RowsOk e) {s : Int} (hs : e.floor ≤ s) (K : Int) : Rel s (e.row K) (e.sweep.1.row K) := by
 rw [sweep_row]
 exact Rel.sweep ⟨0, rfl, .inl rfl, (h.row K).1⟩ hs
structure Later (e e' : Eng) : Prop where
 len : e.txs.length ≤ e'.txs.length
 fix : ∀ j, j < e.txs.length → (e'.tx j).level = (e.tx j).level ∧ (e'.tx j).start = (e.tx j).start ∧ (e'.tx j).begun = (e.tx j).begun
 live : ∀ j, j < e.txs.length → (e'.tx j).alive = true → (e.tx j).alive = true
 over : ∀ j, j < e.txs.length → (e.tx j).alive = false → (e'.tx j).state = (e.tx j).state ∧ (e'.tx j).ended = (e.tx j).ended ∧ (e'.tx j).writes = (e.tx j).writes ∧ (e'.tx j).reads = (e.tx j).reads
 ended : ∀ j, j < e.txs.length → (e.tx j).alive = true → (e'.tx j).alive = false → e.count < (e'.tx j).ended
 count : e.count ≤ e'.count
 view : ∀ j, j < e.txs.length → (e'.tx j).alive = true → (e.tx j).level ≠ 0 → ∀ K, keyOk K → readV (e'.row K) (e.tx j).start = readV (e.row K) (e.tx j).start
theorem Later.refl (e : Eng) : Later e e := ⟨Nat.le_refl _, fun _ _ => ⟨rfl, rfl, rfl⟩, fun _ _ h => h, fun _ _ _ => ⟨rfl, rfl, rfl, rfl⟩, fun _ _ h1 h2 => (by rw [h1] at h2; cases h2), Int.le_refl _, fun _ _ _ _ _ _ => rfl⟩
theorem Later.trans {a b c : Eng} (h : Later a b) (g : Later b c) : Later a c := by
 have hl := h.len
 refine ⟨Nat.le_trans h.len g.len, fun j hj => ?_, fun j hj ha => h.live j hj (g.live j (by omega) ha), fun j hj ha => ?_, fun j hj h1 h2 => ?_, Int.le_trans h.count g.count, fun j hj ha hlv K hK => ?_⟩
 ·obtain ⟨a1, a2, a3⟩ := h.fix j hj
  obtain ⟨b1, b2, b3⟩ := g.fix j (by omega)
  exact ⟨b1.trans a1, b2.trans a2, b3.trans a3⟩
 ·obtain ⟨a1, a2, a3, a4⟩ := h.over j hj ha
  obtain ⟨b1, b2, b3, b4⟩ := g.over j (by omega) (by rw [alive_of_state a1]; exact ha)
  exact ⟨b1.trans a1, b2.trans a2, b3.trans a3, b4.trans a4⟩
 ·cases hb : (b.tx j).alive with
  | true => have := g.ended j (by omega) hb h2; have := h.count; omega
  | false =>
   rw [(g.over j (by omega) hb).2.1]
   exact h.ended j hj h1 hb
 ·obtain ⟨a1, a2, a3⟩ := h.fix j hj
  have hb := g.live j (by omega) ha
  have h1 := g.view j (by omega) ha (by rw [a1]; exact hlv) K hK
  rw [a2] at h1
  exact h1.trans (h.view j hj hb hlv K hK)
theorem Stays.later (h : Stays e e') : Later e e' := by
 refine ⟨Nat.le_of_eq h.len.symm, fun j _ => ⟨(h.fix j).1, (h.fix j).2.1, (h.fix j).2.2.1⟩, fun j _ ha => ?_, fun j _ ha => ⟨(h.over j ha).1, (h.over j ha).2.1, (h.over j ha).2.2, (h.fix j).2.2.2⟩, fun j _ h1 h2 => ?_, h.count, fun j _ _ _ K _ => ?_⟩
 ·cases hb : (e.tx j).alive with
  | true => rfl
  | false => rw [alive_of_state (h.over j hb).1, hb] at ha; cases ha
 ·rcases h.live j h1 with h3 | h3
  ·rw [h3] at h2; cases h2
  ·exact h3.2
 ·unfold Eng.row; rw [h.V]
theorem Later.upd (h : Later e0 e) (ha : (e.tx i).alive = true) (f : Tx → Tx) (hf : ∀ x, (f x).level = x.level ∧ (f x).start = x.start ∧ (f x).begun = x.begun) (hl : (f (e.tx i)).alive = true) : Later e0 (e.upd i f) := by
 have hal : ∀ j, ((e.upd i f).tx j).alive = (e.tx j).alive := fun j => by
  rw [Eng.upd_tx]; split
  ·rename_i hc; rw [← hc.1, ha, hl]
  ·rfl
 refine ⟨by rw [Eng.upd_len]; exact h.len, fun j hj => ?_, fun j hj hb => h.live j hj (by rw [← hal]; exact hb), fun j hj hb => ?_, fun j hj h1 h2 => ?_, h.count, fun j hj hb hlv K hK => h.view j hj (by rw [← hal]; exact hb) hlv K hK⟩
 ·rw [Eng.upd_keep (·.level) f (fun x => (hf x).1), Eng.upd_keep (·.start) f (fun x => (hf x).2.1), Eng.upd_keep (·.begun) f (fun x => (hf x).2.2)]
  exact h.fix j hj
 ·have hji : i ≠ j := by
   intro e1; subst e1
   rw [alive_of_state (h.over i hj hb).1, hb] at ha; cases ha
  rw [Eng.upd_ne hji]; exact h.over j hj hb
 ·rw [hal] at h2
  have hji : i ≠ j := by intro e1; subst e1; rw [ha] at h2; cases h2
  rw [Eng.upd_ne hji]; exact h.ended j hj h1 h2
theorem Later.table (h : Later e0 e) (t : Tbl) : Later e0 (e.table t) := ⟨h.len, h.fix, h.live, h.over, h.ended, h.count, h.view⟩
theorem state_alive {x : Tx} (h : x.state = 0) : x.alive = true := by simp [Tx.alive, h]
def Eng.fresh (e : Eng) (level : Int) : Tx := { Tx.zero with level := level, start := e.last, begun := e.count + 1 }
theorem begin_out (e : Eng) (level : Int) : ((e.begin_ level).2.2 = 0 ∧ (e.begin_ level).2.1 = (e.txs.length : Int) + 1 ∧ (e.begin_ level).1 = e.grown (e.fresh level)) ∨ ((e.begin_ level).2.2 ≠ 0 ∧ (e.begin_ level).1 = e) := by
 unfold Eng.begin_
 split
 ·exact .inr ⟨by simp, rfl⟩
 ·split
  ·exact .inr ⟨by simp, rfl⟩
  ·split
   ·exact .inr ⟨by simp, rfl⟩
   ·exact .inl ⟨rfl, rfl, rfl⟩
theorem noted_tx (e : Eng) (i : Nat) (key : Int) {β : Type} (g : Tx → β) (hg : ∀ x l, g { x with reads := l } = g x) (j : Nat) : g ((e.noted i key).tx j) = g (e.tx j) := Eng.upd_keep g _ (fun x => hg x _) j
theorem OkT.noted1 (h : OkT N e U) (hi : i < e.txs.length) (key : Int) : OkT (N + 1) (e.noted i key) U := h.reads_in hi _
theorem noted_len (e : Eng) (i : Nat) (key : Int) : (e.noted i key).txs.length = e.txs.length := Eng.upd_len ..
theorem wanting_tx (e : Eng) (i : Nat) (w : Int × Int) {β : Type} (g : Tx → β) (hg : ∀ x u, g { x with want := u } = g x) (j : Nat) : g ((e.wanting i w).tx j) = g (e.tx j) := Eng.upd_keep g _ (fun x => hg x _) j
theorem put_ok (h : OkT N e []) {key value : Int} (hi : i < e.txs.length) (hs : (e.tx i).state = 0) (hk : keyOk key) (hv : valOk value) {t' : Tbl} (ht : t' = { e.t with hold := mput e.t.hold key ((i : Int) + 1) } ∧ mget e.t.hold key = none ∨ t' = e.t ∧ mget e.t.hold key = some ((i : Int) + 1)) :
  OkT (N + 200) ((e.wanting i (key, value)).table t') [.put i (key, value)] ∧ i < ((e.wanting i (key, value)).table t').txs.length ∧ (((e.wanting i (key, value)).table t').tx i).state = 0 := by
 have h1 := h.wanted hi (w := (key, value)) hk hv
 have hlen : (e.wanting i (key, value)).txs.length = e.txs.length := Eng.upd_len ..
 have hs1 : ((e.wanting i (key, value)).tx i).state = 0 := (wanting_tx e i _ (·.state) (fun _ _ => rfl) i).trans hs
 have hi1 : i < (e.wanting i (key, value)).txs.length := by omega
 have h2 : OkT N ((e.wanting i (key, value)).table t') [] := by
  rcases ht with ⟨rfl, hh⟩ | ⟨rfl, hh⟩
  ·exact OkT.got (e := e.wanting i (key, value)) h1 hi1 hs1 hk hh
  ·exact h1
 exact ⟨h2.to_put hi1 hs1 hk hv, hi1, hs1⟩
theorem cycle_ok (h : OkT N e []) {key value : Int} (hi : i < e.txs.length) (hk : keyOk key) (hv : valOk value) : OkT N ((e.wanting i (key, value)).table e.t) [] := h.wanted hi (w := (key, value)) hk hv
theorem abort_case (e : Eng) (n : Int) : (∃ x, x ≠ 0 ∧ e.abort n = (e, x)) ∨ ∃ i : Nat, n = (i : Int) + 1 ∧ i < e.txs.length ∧ ¬ 1 < (e.tx i).state ∧ e.abort n = (e.goes i 0, 0) := by
 unfold Eng.abort
 by_cases he : e.err n false ≠ 0
 ·rw [if_pos he]; exact .inl ⟨_, he, rfl⟩
 ·rw [if_neg he]
  obtain ⟨i, rfl, hi, _⟩ := err_num (Decidable.not_not.1 he)
  have hi2 : ((i : Int) + 1).toNat - 1 = i := by omega
  simp only [hi2]
  by_cases h1 : 1 < (e.tx i).state
  ·rw [if_pos h1]; exact .inl ⟨6, by decide, rfl⟩
  ·rw [if_neg h1]; exact .inr ⟨i, rfl, hi, h1, rfl⟩
end
end Go.Proofs.YtdlkjppppdminaaGreatDoor
