/- The program's engine: Read. -/
import Derived.Test.YtcbokjocahnlcaaGreatDoorSt0
import Derived.Shelf.SlIterI.Nil
import Derived.Shelf.SortM.Plain
import Derived.Shelf.SortM.SortNone
import Derived.Ground.GgzProg
import Derived.Ground.SlgmProg
import Derived.Test.YtcbokjocahnlcaaGreatDoorProg
import Derived.Test.YtcbokjocahnlcaaGreatDoorSt2
import Derived.Test.YtcbokjocahnlcaaGreatDoorSt3
import Derived.Lib.SlKeysI
import Derived.Maps.OwnSet
import Derived.Test.YtcbokjocahnlcaaGreatDoorSt7
import Derived.Test.YtcbokjocahnlcaaGreatDoorSt1
import Derived.Deep.DeepCutAuto
import Derived.Deep.CutBlock
/- The library's slices.Sorted(maps.Keys(m)) at this translation: laid by the kit's tool. -/
namespace Go.Proofs
open Go.Shelf
def Tryz.keysA_ren : Go.Shelf.Ren := ⟨fun | 7 => 32 | 10 => 51 | n => n, fun | 23 => 57 | 26 => 3 | 3 => 3 | 28 => 80 | 0 => 0 | 27 => 79 | 33 => 36 | 4 => 4 | n => n, fun | n => n⟩
theorem Tryz.keysA : Go.Proofs.SlLaysZI.n7 Tryz.prog Tryz.keysA_ren := {
 mixed := by kernel_rfl
 f7 := ⟨Tryz.f32.name, by decide, Tryz.func32.trans (congrArg some (by kernel_rfl))⟩
 f10 := ⟨Tryz.f51.name, by decide, Tryz.func51.trans (congrArg some (by kernel_rfl))⟩
 t0 := Tryz.underlying0
 a0 := Tryz.isAgg0
 z0 := Tryz.sizeOf0
 v0 := Tryz.zeroValue0
 t4 := Tryz.underlying4
 a4 := Tryz.isAgg4
 z4 := Tryz.sizeOf4
 v4 := Tryz.zeroValue4
 t23 := Tryz.underlying57
 a23 := Tryz.isAgg57
 z23 := Tryz.sizeOf57
 v23 := Tryz.zeroValue57
 t26 := Tryz.underlying3
 a26 := Tryz.isAgg3
 z26 := Tryz.sizeOf3
 v26 := Tryz.zeroValue3
 t27 := Tryz.underlying79
 a27 := Tryz.isAgg79
 z27 := Tryz.sizeOf79
 v27 := Tryz.zeroValue79
 t28 := Tryz.underlying80
 a28 := Tryz.isAgg80
 z28 := Tryz.sizeOf80
 v28 := Tryz.zeroValue80
 t33 := Tryz.underlying36
 a33 := Tryz.isAgg36
 z33 := Tryz.sizeOf36
 v33 := Tryz.zeroValue36 }
def Tryz.sortedA_ren : Go.Shelf.Ren := ⟨fun | 6 => 31 | 8 => 49 | 9 => 50 | 11 => 74 | 13 => 76 | 12 => 75 | 23 => 96 | 24 => 97 | 14 => 87 | 15 => 88 | 16 => 89 | 17 => 90 | 18 => 91 | 19 => 92 | 20 => 93 | 21 => 94 | 22 => 95 | 25 => 108 | 26 => 109 | 27 => 110 | 28 => 111 | 29 => 112 | 30 => 113 | 31 => 117 | n => n, fun | 26 => 3 | 28 => 80 | 24 => 30 | 0 => 0 | 3 => 3 | 37 => 95 | 48 => 178 | 50 => 180 | 4 => 4 | 40 => 171 | 39 => 170 | 45 => 64 | 5 => 5 | 9 => 9 | 51 => 188 | 55 => 192 | 57 => 196 | 58 => 197 | 33 => 36 | n => n, fun | n => n⟩
theorem Tryz.sortedA : Go.Proofs.SlLaysZI.n6 Tryz.prog Tryz.sortedA_ren := {
 mixed := by kernel_rfl
 f6 := ⟨Tryz.f31.name, by decide, Tryz.func31.trans (congrArg some (by kernel_rfl))⟩
 f8 := ⟨Tryz.f49.name, by decide, Tryz.func49.trans (congrArg some (by kernel_rfl))⟩
 f11 := ⟨Tryz.f74.name, by decide, Tryz.func74.trans (congrArg some (by kernel_rfl))⟩
 t0 := Tryz.underlying0
 a0 := Tryz.isAgg0
 z0 := Tryz.sizeOf0
 v0 := Tryz.zeroValue0
 t24 := Tryz.underlying30
 a24 := Tryz.isAgg30
 z24 := Tryz.sizeOf30
 v24 := Tryz.zeroValue30
 t26 := Tryz.underlying3
 a26 := Tryz.isAgg3
 z26 := Tryz.sizeOf3
 v26 := Tryz.zeroValue3
 t28 := Tryz.underlying80
 a28 := Tryz.isAgg80
 z28 := Tryz.sizeOf80
 v28 := Tryz.zeroValue80
 i26 := by kernel_rfl }
def Tryz.sortA_ren : Go.Shelf.Ren := ⟨fun | 5 => 50 | 8 => 76 | 7 => 75 | 19 => 96 | 20 => 97 | 10 => 87 | 11 => 88 | 12 => 89 | 13 => 90 | 14 => 91 | 15 => 92 | 16 => 93 | 17 => 94 | 18 => 95 | 30 => 108 | 31 => 109 | 32 => 110 | 33 => 111 | 34 => 112 | 35 => 113 | 40 => 117 | n => n, fun | 23 => 30 | 25 => 3 | 3 => 3 | 32 => 95 | 22 => 30 | 0 => 0 | 44 => 178 | 46 => 180 | 4 => 4 | 36 => 171 | 35 => 170 | 41 => 64 | 5 => 5 | 9 => 9 | 53 => 188 | 57 => 192 | 63 => 196 | 64 => 197 | n => n, fun | n => n⟩
theorem Tryz.sortA : Go.Proofs.SlLaysM.n5 Tryz.prog Tryz.sortA_ren := {
 mixed := by kernel_rfl
 f5 := ⟨Tryz.f50.name, by decide, Tryz.func50.trans (congrArg some (by kernel_rfl))⟩
 f7 := ⟨Tryz.f75.name, by decide, Tryz.func75.trans (congrArg some (by kernel_rfl))⟩
 f8 := Tryz.func76.trans (congrArg some (by kernel_rfl))
 f10 := ⟨Tryz.f87.name, by decide, Tryz.func87.trans (congrArg some (by kernel_rfl))⟩
 f11 := ⟨Tryz.f88.name, by decide, Tryz.func88.trans (congrArg some (by kernel_rfl))⟩
 f12 := ⟨Tryz.f89.name, by decide, Tryz.func89.trans (congrArg some (by kernel_rfl))⟩
 f13 := ⟨Tryz.f90.name, by decide, Tryz.func90.trans (congrArg some (by kernel_rfl))⟩
 f14 := ⟨Tryz.f91.name, by decide, Tryz.func91.trans (congrArg some (by kernel_rfl))⟩
 f15 := ⟨Tryz.f92.name, by decide, Tryz.func92.trans (congrArg some (by kernel_rfl))⟩
 f16 := ⟨Tryz.f93.name, by decide, Tryz.func93.trans (congrArg some (by kernel_rfl))⟩
 f17 := ⟨Tryz.f94.name, by decide, Tryz.func94.trans (congrArg some (by kernel_rfl))⟩
 f18 := ⟨Tryz.f95.name, by decide, Tryz.func95.trans (congrArg some (by kernel_rfl))⟩
 f19 := Tryz.func96.trans (congrArg some (by kernel_rfl))
 f20 := Tryz.func97.trans (congrArg some (by kernel_rfl))
 f30 := ⟨Tryz.f108.name, by decide, Tryz.func108.trans (congrArg some (by kernel_rfl))⟩
 f31 := Tryz.func109.trans (congrArg some (by kernel_rfl))
 f32 := Tryz.func110.trans (congrArg some (by kernel_rfl))
 f33 := ⟨Tryz.f111.name, by decide, Tryz.func111.trans (congrArg some (by kernel_rfl))⟩
 f34 := ⟨Tryz.f112.name, by decide, Tryz.func112.trans (congrArg some (by kernel_rfl))⟩
 f35 := ⟨Tryz.f113.name, by decide, Tryz.func113.trans (congrArg some (by kernel_rfl))⟩
 f40 := ⟨Tryz.f117.name, by decide, Tryz.func117.trans (congrArg some (by kernel_rfl))⟩
 t0 := Tryz.underlying0
 a0 := Tryz.isAgg0
 z0 := Tryz.sizeOf0
 v0 := Tryz.zeroValue0
 t3 := Tryz.underlying3
 a3 := Tryz.isAgg3
 z3 := Tryz.sizeOf3
 v3 := Tryz.zeroValue3
 t4 := Tryz.underlying4
 a4 := Tryz.isAgg4
 z4 := Tryz.sizeOf4
 v4 := Tryz.zeroValue4
 t5 := Tryz.underlying5
 a5 := Tryz.isAgg5
 z5 := Tryz.sizeOf5
 v5 := Tryz.zeroValue5
 t9 := Tryz.underlying9
 a9 := Tryz.isAgg9
 z9 := Tryz.sizeOf9
 v9 := Tryz.zeroValue9
 t22 := Tryz.underlying30
 a22 := Tryz.isAgg30
 z22 := Tryz.sizeOf30
 v22 := Tryz.zeroValue30
 t23 := Tryz.underlying30
 a23 := Tryz.isAgg30
 z23 := Tryz.sizeOf30
 v23 := Tryz.zeroValue30
 t25 := Tryz.underlying3
 a25 := Tryz.isAgg3
 z25 := Tryz.sizeOf3
 v25 := Tryz.zeroValue3
 t32 := Tryz.underlying95
 a32 := Tryz.isAgg95
 z32 := Tryz.sizeOf95
 v32 := Tryz.zeroValue95
 t35 := Tryz.underlying170
 a35 := Tryz.isAgg170
 z35 := Tryz.sizeOf170
 v35 := Tryz.zeroValue170
 t36 := Tryz.underlying171
 a36 := Tryz.isAgg171
 z36 := Tryz.sizeOf171
 v36 := Tryz.zeroValue171
 t41 := Tryz.underlying64
 a41 := Tryz.isAgg64
 z41 := Tryz.sizeOf64
 v41 := Tryz.zeroValue64
 t44 := Tryz.underlying178
 a44 := Tryz.isAgg178
 z44 := Tryz.sizeOf178
 v44 := Tryz.zeroValue178
 t46 := Tryz.underlying180
 a46 := Tryz.isAgg180
 z46 := Tryz.sizeOf180
 v46 := Tryz.zeroValue180
 t53 := Tryz.underlying188
 a53 := Tryz.isAgg188
 z53 := Tryz.sizeOf188
 v53 := Tryz.zeroValue188
 t57 := Tryz.underlying192
 a57 := Tryz.isAgg192
 z57 := Tryz.sizeOf192
 v57 := Tryz.zeroValue192
 t63 := Tryz.underlying196
 a63 := Tryz.isAgg196
 z63 := Tryz.sizeOf196
 v63 := Tryz.zeroValue196
 t64 := Tryz.underlying197
 a64 := Tryz.isAgg197
 z64 := Tryz.sizeOf197
 v64 := Tryz.zeroValue197 }
end Go.Proofs
/- The keys of a map of whole numbers, sorted by the library: slices.Sorted(maps.Keys(m)). -/
namespace Go.Sep
open Go Go.RowKit
theorem S.row_in {w0 w w' : World} {L : List HProp} {e : TypeId} {size n : Nat} {v : Value} {xs : List Value} (h : S w0 w L) (hb : Below w.heap.size w w') (hr : w'.ownsRow w.heap.size e size v n xs) : S w0 w' (sl e size v n xs :: L) := by
 obtain ⟨hl, hr⟩ := hr
 rcases hr with ⟨rfl, rfl⟩ | ⟨g, cap, cur, rfl, hg, hh, hn, hc, hs, ht⟩
 ·obtain rfl : xs = [] := List.eq_nil_of_length_eq_zero (by simpa using hl)
  exact (h.onto hb).sl_nil
 ·have h1 : S w0 w' (blk g e cur.toList :: L) := by
   refine h.add hb ?_
   obtain ⟨gh, p, hgh⟩ := blk_hp g e cur.toList
   refine ⟨gh, p, fun b i t ht' => ?_⟩
   obtain ⟨rfl, ht'⟩ := hgh b i t ht'
   refine ⟨hg, ?_⟩
   unfold holds
   rw [hh]
   cases i with
   | none => simp at ht'; subst ht'; simp
   | some i => obtain ⟨v, hv, rfl⟩ := ht'; simp at hv ⊢; exact hv
  have hcl : cur.toList.length = cap * size := by simpa using hs
  refine .sl_intro (g := g) (cap := cap) (pre := []) (sp := cur.toList.drop (n * size)) (post := []) ⟨rfl, hl, ?_, hn, hc⟩ ?_
  ·rw [← ht, List.length_take, List.length_drop, hcl]
   have : n * size ≤ cap * size := Nat.mul_le_mul_right _ hn
   omega
  ·rw [← ht]
   simpa using h1
end Go.Sep
namespace Go.Proofs.YtcbokjocahnlcaaGreatDoor
open Go Go.RowKit Go.Sep Go.Proofs
def anyV : Value → Option (DataW Unit × List MemPlace) := fun _ => some (.lit (.bool true), [])
theorem keyOf_int {x : Int} (hx : 0 ≤ x ∧ x ≤ 1000000) : keyOf Tryz.prog 3 (.int .i64 x) = some (.int .i64 x) := by
 have hm : IntKind.min .i64 = -9223372036854775808 := by decide
 have hM : IntKind.max .i64 = 9223372036854775807 := by decide
 have hw : (Lit.int .i64 x).wf = true := by
  simp only [Lit.wf, Bool.and_eq_true, decide_eq_true_eq]
  omega
 simp [keyOf, mapKey, Tryz.underlying3, hw]
theorem ownsMap_mp {w : World} {b : Nat} {D : List (Int × Int)} (h : Sep.MapAt Sep.encI (fun _ => True) w b (ienc D)) (hk : ∀ p ∈ D, 0 ≤ p.1 ∧ p.1 ≤ 1000000) (hl : D.length ≤ 1000000) :
  ∃ D0 : DataW Unit, w.ownsMap Tryz.prog 3 anyV b D.length D0 ∧ (intKeys D0).Perm (D.map (·.1)) ∧ Maps.size D0 = D.length := by
 obtain ⟨es, clock, hb, hm⟩ := h
 have hkey := keys_of hm
 have hsz : es.toList.length = D.length := by
  have := congrArg List.length hkey
  simpa [ienc] using this
 have hsz2 : es.size = D.length := by simpa using hsz
 have hrd : ∀ x ∈ es.toList, ∃ p ∈ D, x.key = .int .i64 p.1 := fun x hx => by
  have : x.key ∈ es.toList.map (·.key) := List.mem_map.2 ⟨x, hx, rfl⟩
  rw [hkey] at this
  obtain ⟨k, hk', e1⟩ := List.mem_map.1 this
  simp only [ienc, List.map_map, Function.comp_def] at hk'
  obtain ⟨p, hp, rfl⟩ := List.mem_map.1 hk'
  exact ⟨p, hp, e1.symm⟩
 have hrg : ∀ x ∈ es.toList, ∃ p ∈ D, x.key = .int .i64 p.1 ∧ WideElems.rd Tryz.prog 3 anyV x = some (.int .i64 p.1, .lit (.bool true)) := fun x hx => by
  obtain ⟨p, hp, e1⟩ := hrd x hx
  refine ⟨p, hp, e1, ?_⟩
  unfold WideElems.rd
  rw [e1, keyOf_int (hk p hp)]
  rfl
 refine ⟨.map ((es.toList.map (WideElems.rg Tryz.prog 3 anyV)).foldr DataW.insert []), ⟨es, clock, hb, ⟨?_, ⟨hm.2.2.1, hm.2.1, ?_⟩, fun x hx => ?_⟩, by omega, rfl⟩, ?_, ?_⟩
 ·unfold maxLen; omega
 ·rw [hkey]
  exact hm.2.2.2.1.map (f := Sep.encI) (fun a b hab => fun e => hab (by simpa [Sep.encI] using e))
 ·obtain ⟨p, _, _, e1⟩ := hrg x hx
  exact ⟨_, e1⟩
 ·have h1 : (intKeys (.map ((es.toList.map (WideElems.rg Tryz.prog 3 anyV)).foldr DataW.insert [])) : List Int) = ((es.toList.map (WideElems.rg Tryz.prog 3 anyV)).foldr DataW.insert []).map fun p => Go.intOf p.1 := rfl
  rw [h1]
  refine ((WideShapes.sorted_perm _).map _).trans ?_
  rw [List.map_map]
  have h2 : es.toList.map ((fun p : Lit × DataW Unit => Go.intOf p.1) ∘ WideElems.rg Tryz.prog 3 anyV) = D.map (·.1) := by
   have h3 : es.toList.map ((fun p : Lit × DataW Unit => Go.intOf p.1) ∘ WideElems.rg Tryz.prog 3 anyV) = (es.toList.map (·.key)).map fun v => match v with | .int _ n => n | _ => 0 := by
    rw [List.map_map]
    apply List.map_congr_left
    intro x hx
    obtain ⟨p, _, e1, e2⟩ := hrg x hx
    simp only [Function.comp_apply]
    rw [WideElems.rg_of e2, e1]
    rfl
   rw [h3, hkey]
   simp [ienc, List.map_map, Function.comp_def, Sep.encI]
  rw [h2]
 ·show ((es.toList.map (WideElems.rg Tryz.prog 3 anyV)).foldr DataW.insert []).length = _
  rw [(WideShapes.sorted_perm _).length_eq]
  simpa using hsz
theorem sortsA (m : Nat) : AnyZI.SortsIn Tryz.prog Tryz.sortedA_ren Fence.wide m :=
 ⟨fun blk off cap ss W hH hblk hsz => callsIn_wide.2 (AnyM.slices_Sort_int Tryz.sortA blk off cap ss W hH hblk hsz),
  fun p cap W => callsIn_wide.2 (AnyM.slices_Sort_int_none Tryz.sortA p cap W)⟩
theorem keys_any (mb : Nat) (w : World) : Calls Tryz.prog 32 #[.map (some mb)] w fun e w' => e = .returned (.func (.func 51) #[] #[.pointer (some ⟨w.heap.size, 0, none⟩)]) ∧ w' = w.alloc (.cells #[.map (some mb)] 57) :=
 (callsIn_wide (n := 6)).1 (AnyZI.keys_in Tryz.keysA Fence.wide 6 trivial rfl (some mb) w)
theorem sorted_any (w0 w : World) (B mb : Nat) (D : List (Int × Int)) (L : List HProp) (hs : S w0 w L) (hc : w.cell? ⟨B, 0, none⟩ = some (.map (some mb))) (hB : B < w.heap.size) (hm : Sep.MapAt Sep.encI (fun _ => True) w mb (ienc D))
  (hk : ∀ p ∈ D, 0 ≤ p.1 ∧ p.1 ≤ 1000000) (hl : D.length ≤ 1000000) :
  Calls Tryz.prog 31 #[.func (.func 51) #[] #[.pointer (some ⟨B, 0, none⟩)]] w fun e w' => ∃ v, e = .returned v ∧ S w0 w' (sl 3 1 v D.length (icells (sortI (D.map (·.1)))) :: L) := by
 obtain ⟨D0, hown, hperm, hsz⟩ := ownsMap_mp hm hk hl
 refine (callsIn_wide (n := 6)).1 ?_
 have hseq : SeqGives Fence.wide 3 Tryz.prog 51 #[.pointer (some ⟨B, 0, none⟩)] encZ (fun ss => ss.Perm (intKeys D0)) (Maps.size D0) w :=
  AnyZI.keys_gives (ρ := Tryz.keysA_ren) { Tryz.keysA with } Fence.wide 3 trivial rfl (by omega) B mb D.length D0 w hB hc hown
 have cS := AnyZI.sorted_in Tryz.sortedA Fence.wide 6 trivial trivial trivial trivial rfl (by omega) (sortsA _) (enters_of Tryz.func50 (by kernel_rfl) rfl) 51 #[.pointer (some ⟨B, 0, none⟩)] trivial (enters_of Tryz.func51 (by kernel_rfl) rfl) _ _ (by rw [hsz]; unfold maxLen; omega) (by rw [hsz]; omega) w hseq
 change CallsIn _ _ Tryz.prog 31 _ _ _ at cS
 refine cS.mono fun e w' ⟨v, ss, he, hS, hrow, _, hb⟩ => ⟨v, he, ?_⟩
 have hlen : ss.length = D.length := by rw [hS.length_eq, hperm.length_eq]; simp
 have hsort : ss.mergeSort (fun x y => decide (x ≤ y)) = sortI (D.map (·.1)) := sortI_of ((List.mergeSort_perm _ _).trans (hS.trans hperm)) (by
  have := List.pairwise_mergeSort (le := fun x y : Int => decide (x ≤ y)) (fun a b c h1 h2 => by simp only [decide_eq_true_eq] at *; omega) (fun a b => by simp only [Bool.or_eq_true, decide_eq_true_eq]; omega) ss
  exact this.imp fun h => by simpa using h)
 rw [hsort, hlen] at hrow
 exact hs.row_in hb hrow
end Go.Proofs.YtcbokjocahnlcaaGreatDoor
/- The program's engine: Writes. -/
namespace Go.Proofs.YtcbokjocahnlcaaGreatDoor
open Go Go.RowKit Go.Sep
theorem own_few {e : Eng} {N : Nat} {U : List Task} {i : Nat} (h : OkT N e U) (hi : i < e.txs.length) : (e.tx i).writes.length ≤ 10 := by
 have h1 := h.at hi
 have := Sep.few (S := [0, 1, 2, 3, 4, 5, 6, 7, 8, 9]) h1.keys (fun k hk => by
  obtain ⟨p, hp, rfl⟩ := List.mem_map.1 hk
  have := (h1.own p hp).1
  unfold keyOk at this
  simp; omega)
 simpa using this
theorem written_len (x : Tx) : x.written.length = x.writes.length := by simp [Tx.written, sortI_len]
set_option maxRecDepth 40000 in
set_option maxHeartbeats 4000000 in
theorem ewrites_any (w0 w : World) (b : Nat) (bs : List Nat) (e : Eng) (n : Int) (L : List HProp) (N : Nat) (U : List Task) (hok : OkT N e U) (hs : S w0 w (engP b bs e :: L)) :
  Calls Tryz.prog 10 #[.pointer (some ⟨b, 0, none⟩), .int .i64 n] w fun r w' => ∃ v, r = .returned (.tuple #[v, errV (e.writes n).2]) ∧ S w0 w' (sl 44 2 v (e.writes n).1.length (pcells (e.writes n).1) :: engP b bs e :: L) := by
 have HS := hid hs
 obtain ⟨k, hs⟩ := hs.eng_open
 have hO : S w0 w (engO b bs k e :: storeP 105 b 0 e.V e.last :: tabP 3 b 11 e.t :: L) := hs.conv (by simp only [all]; ac_rfl)
 rcases e.err_cases n false with ⟨h1, h2⟩ | ⟨i, rfl, hi, ⟨h1, h2, h3⟩ | ⟨h1, h2⟩⟩
 ·have hf : e.writes n = ([], 7) := by unfold Eng.writes; rw [if_pos (by rw [h1]; decide), h1]
  have HF := hid hf; have HC := hid (of_miss w0 w b bs k e n false _ hO h2)
  clear hs hO h1 h2 hf hok
  go_enter Tryz.func10, Tryz.ntmps10
  go_wp2_with fail
  with_reducible refine HC.out.mono ?_
  rintro r w' ⟨rfl, rfl⟩
  go_wp2_with fail
  go_ret2
  refine ⟨.slice none 0 0, by rw [HF.out]; rfl, ?_⟩
  rw [HF.out]
  exact HS.out.sl_nil
 ·cases h2
 ·have hi2 : ((i : Int) + 1).toNat - 1 = i := by omega
  have hf : e.writes ((i : Int) + 1) = ((e.tx i).written, 0) := by unfold Eng.writes; rw [if_neg (by rw [h1]; decide), hi2]
  have hc := of_ok w0 w b bs k e i false _ hO hi h2
  unfold ptr at hc
  have hq : ∀ W M, S w0 W (engO b bs k e :: M) → W.cell? ⟨blkOf bs i, 6, none⟩ = some (.map (some (k.v i).mb)) ∧ Sep.MapAt Sep.encI (fun _ => True) W (k.v i).mb (ienc (e.tx i).writes) := fun W M h => ⟨(h.eng_txc hi).2.writes, (h.eng_txc hi).2.map⟩
  have hfew := own_few hok hi
  have hkeys : ∀ p ∈ (e.tx i).writes, 0 ≤ p.1 ∧ p.1 ≤ 1000000 := fun p hp => by
   have := ((hok.at hi).own p hp).1
   unfold keyOk at this; omega
  have c6 := (hq _ _ hO).1
  have hO2 := hO.alloc #[.map (some (k.v i).mb)] 57
  have hso := sorted_any w0 _ w.heap.size (k.v i).mb (e.tx i).writes _ hO2 (hO2.blk_cell 0 rfl) (by simp) ((hq _ _ hO2.tail).2) hkeys (by omega)
  obtain ⟨D, hD⟩ : ∃ D, (e.tx i).writes = D := ⟨_, rfl⟩
  obtain ⟨ks, hks⟩ : ∃ ks, sortI (D.map (·.1)) = ks := ⟨_, rfl⟩
  have hkl : ks.length = D.length := by rw [← hks, sortI_len]; simp
  have hwr : (e.tx i).written = ks.map fun k => (k, (mget D k).getD 0) := by unfold Tx.written; rw [hD, hks]
  rw [hD, hks] at hso
  rw [hD] at hfew
  have hq2 : ∀ W M, S w0 W (engO b bs k e :: M) → W.cell? ⟨blkOf bs i, 6, none⟩ = some (.map (some (k.v i).mb)) ∧ ∀ kk, (Instr.lookup 57 (.map (some (k.v i).mb)) (.int .i64 kk) false).run Tryz.prog W = .ok (.int .i64 ((mget D kk).getD 0)) W := fun W M h => by
   obtain ⟨g1, g2⟩ := hq W M h
   rw [hD] at g2
   exact ⟨g1, fun kk => Tryz.look1 g2 kk⟩
  have HF := hid hf; have HC := hid hc; have HQ := hid hq2; have HSO := hid hso; have HWR := hid hwr; have HKL := hid hkl
  clear hs hO h1 h2 hf hc hok hi2 hq hkeys hO2 hso hwr hq2 hks hD
  go_enter Tryz.func10, Tryz.ntmps10
  go_wp2_with fail
  with_reducible refine HC.out.mono ?_
  rintro r w' ⟨rfl, rfl⟩
  go_wp2_with fail
  with_reducible refine (keys_any _ _).mono ?_
  rintro r w' ⟨rfl, rfl⟩
  go_wp2_with fail
  with_reducible refine HSO.out.mono ?_
  rintro r w2 ⟨u, rfl, hs2⟩
  have hs3 : S w0 w2 (sl 3 1 u ks.length (icells ks) :: engO b bs k e :: storeP 105 b 0 e.V e.last :: tabP 3 b 11 e.t :: L) := by
   rw [HKL.out]
   exact (hs2.conv (M := blk w.heap.size 57 [.map (some (k.v i).mb)] :: sl 3 1 u D.length (icells ks) :: engO b bs k e :: storeP 105 b 0 e.V e.last :: tabP 3 b 11 e.t :: L) (by simp only [all]; ac_rfl)).tail
  obtain ⟨au, cu, rfl, hcu, hcu2, _⟩ := hs3.sl_val
  have hkn : ks.length ≤ 10 := by rw [HKL.out]; exact hfew
  have H3 := hid (S.sl_nil (e := 44) (size := 2) hs3)
  clear hs2 hs3 HC HSO HKL hfew hcu2
  go_wp2_with fail
  clear c6
  go_loopw [8, 27] (fun ov c wr => ∃ j : Nat, j ≤ ks.length ∧ c = .int .i64 j ∧ S w0 wr (sl 44 2 ov j (pcells ((ks.take j).map fun k => (k, (mget D k).getD 0))) :: sl 3 1 (.slice au ks.length cu) ks.length (icells ks) :: engO b bs k e :: storeP 105 b 0 e.V e.last :: tabP 3 b 11 e.t :: L)) (fun _ c _ => ks.length - (intOf c).toNat)
  case atStart => exact ⟨0, Nat.zero_le _, rfl, H3.out⟩
  case round =>
   rename World => wr
   obtain ⟨j, hj, rfl, hsr⟩ := hrel
   clear H3
   by_cases hlt : j < ks.length
   ·have hp : ks[j]? = some ks[j] := by simp [hlt]
    generalize ks[j] = kk at hp
    obtain ⟨g, og, rfl, _, d0⟩ := hsr.swap.sl_int hp
    obtain ⟨ao, co, rfl, hco, hco2, _⟩ := hsr.sl_val
    unfold maxLen at hco2
    obtain ⟨c6, l6⟩ := HQ.out _ _ hsr.rot3
    replace l6 := l6 kk
    have hst : (ks.take (j + 1)).map (fun k => (k, (mget D k).getD 0)) = (ks.take j).map (fun k => (k, (mget D k).getD 0)) ++ [(kk, (mget D kk).getD 0)] := by rw [take_succ_get hp, List.map_append]; rfl
    have hpl : (pcells ((ks.take j).map fun k => (k, (mget D k).getD 0))).length = j * 2 := hsr.sl_len
    generalize (ks.take j).map (fun k => (k, (mget D k).getD 0)) = O at *
    generalize (mget D kk).getD 0 = vv at *
    obtain ⟨i0, hi0, hz0, hz1, hz2⟩ := info_parts Tryz.info44
    have hs5 := hsr.alloc #[.int .i64 kk, .int .i64 vv] 44
    have hn5 := news_blk hs5
    have H5 := hid hs5.tail; have HN := hid hn5; have HST := hid hst; have HPL := hid hpl
    clear hsr hs5 hn5 hst hp hpl
    go_wp2_with (at_builtin; refine wpList_append rfl (.tmp 31) (.tmp 40) 37 rfl 44 i0 _ 2 16 Tryz.underlying37 hi0 hz0 hz1 hz2 rfl (by decide) H5.out rfl (some ⟨wr.heap.size, 0, none⟩) 1 1 [.int .i64 kk, .int .i64 vv] rfl rfl HN.out (by simp [Value.oneCell']) (by unfold maxLen; omega) (by omega) ?_; intro v1 w5 hs6; have H6 := hid hs6; clear hs6)
    go_roundw
    case rel => exact ⟨j + 1, by omega, by go_num, by rw [HST.out, pcells_append]; exact H6.out⟩
    case measure => simp [intOf]; omega
   ·obtain rfl : j = ks.length := by omega
    rw [List.take_length] at hsr
    have H4 := hid hsr
    clear hsr
    go_wp2_with fail
    go_ret2
    refine ⟨_, by rw [HF.out]; rfl, ?_⟩
    rw [HF.out, HWR.out, List.length_map]
    have h6 := H4.out.conv (M := sl 3 1 (.slice au ks.length cu) ks.length (icells ks) :: storeP 105 b 0 e.V e.last :: tabP 3 b 11 e.t :: engO b bs k e :: sl 44 2 _ ks.length (pcells (ks.map fun k => (k, (mget D k).getD 0))) :: L) (by simp only [all]; ac_rfl)
    exact (S.eng_shut h6.tail).swap
end Go.Proofs.YtcbokjocahnlcaaGreatDoor
/- Transactions at the same time: what holds of an engine is kept by Commit, Abort, Sweep. No walk in sight. -/
namespace Go.Proofs.YtcbokjocahnlcaaGreatDoor
open Go Go.RowKit Go.Sep
variable {e : Eng} {i j : Nat} {N M : Nat} {U : List Task}
theorem put1_row {n : Nat} {at_ : Int} {V : List Vers} (p : Int × Int) (h : ∀ vs ∈ V, vs.length ≤ n ∨ (vs.length ≤ n + 1 ∧ vs.getLast?.map (·.1) = some at_)) :
  ∀ vs ∈ put1 at_ V p, vs.length ≤ n ∨ (vs.length ≤ n + 1 ∧ vs.getLast?.map (·.1) = some at_) := by
 intro vs hvs
 unfold put1 at hvs
 rcases List.mem_or_eq_of_mem_set hvs with h1 | rfl
 ·exact h vs h1
 ·have hv : (((V[p.1.toNat]?).getD []).length ≤ n ∨ (((V[p.1.toNat]?).getD []).length ≤ n + 1 ∧ ((V[p.1.toNat]?).getD []).getLast?.map (·.1) = some at_)) := by
   cases hg : V[p.1.toNat]? with
   | none => left; simp
   | some x => exact h x (List.mem_of_getElem? hg)
  generalize (V[p.1.toNat]?).getD [] = x at hv
  split
  ·rename_i hl
   have hne : x ≠ [] := by rintro rfl; simp at hl
   have := List.length_pos_iff.2 hne
   right
   refine ⟨?_, by simp⟩
   rw [List.length_append, List.length_dropLast, List.length_singleton]
   omega
  ·rename_i hl
   right
   refine ⟨?_, by simp⟩
   rw [List.length_append, List.length_singleton]
   rcases hv with hv | hv
   ·omega
   ·exact absurd hv.2 hl
theorem putAll_row {n : Nat} {at_ : Int} (l : Vers) : ∀ {V : List Vers}, (∀ vs ∈ V, vs.length ≤ n ∨ (vs.length ≤ n + 1 ∧ vs.getLast?.map (·.1) = some at_)) → ∀ vs ∈ putAll at_ V l, vs.length ≤ n ∨ (vs.length ≤ n + 1 ∧ vs.getLast?.map (·.1) = some at_) := by
 induction l with
 | nil => intro V h; simpa [putAll] using h
 | cons p l ih => intro V h vs hvs; exact ih (put1_row p h) vs hvs
theorem OkT.restyle (h : OkT N e U) (hi : i < e.txs.length) (hs : (e.tx i).state = 3) (c : Int) {V' : List Vers} {last' : Int} {wr' : List (Int × Int)} {hist' : List Op1} (hV : V'.length = 10) (hrows : ∀ vs ∈ V', (vs.length : Int) ≤ e.count + 1) (hlast : 0 ≤ last' ∧ last' ≤ 1099511627776)
  (hwr : ∀ k v, mget wr' k = some v → mget e.wr k = some v ∨ v = (i : Int) + 1) (hwrl : (wr'.length : Int) ≤ e.count) (hhist : (hist'.length : Int) ≤ e.count * ((N : Int) + 10)) :
  OkT N (({ e with V := V', last := last', wr := wr', hist := hist' } : Eng).upd i fun x => { x with state := 2, why := c }) U := by
 obtain ⟨Q, hQ⟩ := h.tab
 generalize he1 : ({ e with V := V', last := last', wr := wr', hist := hist' } : Eng) = e1
 have htxe : ∀ j, e1.tx j = e.tx j := fun j => by rw [← he1]; rfl
 have hl1 : e1.txs.length = e.txs.length := by rw [← he1]
 have hlen : (e1.upd i fun x => { x with state := 2, why := c }).txs.length = e.txs.length := by rw [Eng.upd_len, hl1]
 have hi1 : i < e1.txs.length := by omega
 have hne : ∀ j, j ≠ i → (e1.upd i fun x => { x with state := 2, why := c }).tx j = e.tx j := fun j hj => by rw [Eng.upd_ne (Ne.symm hj), htxe]
 have hself : (e1.upd i fun x => { x with state := 2, why := c }).tx i = { e.tx i with state := 2, why := c } := by rw [Eng.upd_self hi1, htxe]
 have hm1 := Eng.many_upd hi1 Tx.alive (fun x => { x with state := 2, why := c })
 have hm2 := Eng.many_upd hi1 Tx.waits (fun x => { x with state := 2, why := c })
 rw [if_neg (by rw [htxe]; simp [Tx.alive, hs]), if_neg (by simp [Tx.alive])] at hm1
 rw [if_neg (by rw [htxe]; simp [Tx.waits, hs]), if_neg (by simp [Tx.waits])] at hm2
 have hop : (e1.upd i fun x => { x with state := 2, why := c }).open_ = e.open_ := by
  have : e1.many Tx.alive = e.open_ := by rw [← he1]; rfl
  unfold Eng.many at hm1 this; unfold Eng.open_ at *; omega
 have hwt : (e1.upd i fun x => { x with state := 2, why := c }).many Tx.waits = e.many Tx.waits := by
  have : e1.many Tx.waits = e.many Tx.waits := by rw [← he1]; rfl
  omega
 have hQi : ∀ k, ∀ x ∈ Q k, x.toNat - 1 ≠ i := fun k x hx he => by
  have := hQ.alive k x hx
  rw [he] at this
  simp [Tx.alive, hs] at this
 have hcn : (e1.upd i fun x => { x with state := 2, why := c }).count = e.count := by rw [← he1]; rfl
 refine ⟨by rw [hlen]; exact h.few, by rw [← he1]; exact hV, ?_, fun k v hk => ?_, ⟨Q, ?_, hQ.rk, ?_, fun k x hx => by rw [hlen]; exact hQ.key k x hx, fun k x hx => by rw [hne _ (hQi k x hx)]; exact hQ.alive k x hx, fun k x hx => by rw [hne _ (hQi k x (List.mem_of_mem_tail hx))]; exact hQ.waits k x hx⟩, fun j hj hs' => ?_, by rw [hop]; exact h.six, by rw [hop, hlen, hcn]; exact h.cnt, fun vs hv => ?_, ?_, by rw [← he1]; exact hlast, ?_, ?_, ?_, fun t ht => ?_, h.apart⟩
 ·rw [hlen]
  refine Eng.upd_all (by rw [← he1]; exact h.txs) fun _ => ?_
  have := h.at hi
  rw [htxe]
  exact ⟨by simp, this.refs, this.want, this.own, this.keys⟩
 ·have hk' : mget wr' k = some v := by rw [← he1] at hk; exact hk
  rw [hlen]
  rcases hwr k v hk' with g | rfl
  ·obtain ⟨g1, g2, g3⟩ := h.wr k v g
   rw [hne]
   ·exact ⟨g1, g2, g3⟩
   ·intro e2; rw [e2, hs] at g3; omega
  ·rw [show ((i : Int) + 1).toNat - 1 = i by omega, hself]
   exact ⟨by omega, by omega, rfl⟩
 ·rw [← he1]; exact hQ.tab
 ·rw [← he1]; exact hQ.hold
 ·rw [hlen] at hj
  have hji : j ≠ i := by rintro rfl; rw [hself] at hs'; cases hs'
  rw [hne j hji] at hs'
  rcases h.all j hj hs' with g | g
  ·left; rw [← he1]; exact g
  ·exact .inr g
 ·rw [hcn]; rw [← he1] at hv; exact hrows vs hv
 ·rw [hcn, ← he1]; exact hwrl
 ·rw [hcn, ← he1]; exact hhist
 ·refine Eng.upd_all (p := fun x => x.reads.length ≤ N) (by rw [← he1]; exact h.reads) fun _ => ?_
  rw [htxe]; exact h.reads (e.tx i) (Eng.tx_mem hi)
 ·rw [hwt]
  refine Eng.upd_all (p := fun x => x.fore.length + 200 * e.many Tx.waits + slacks U ≤ N ∧ x.aft.length + 200 * e.many Tx.waits + slacks U ≤ N) (by rw [← he1]; exact h.fits) fun _ => ?_
  rw [htxe]; exact h.fits (e.tx i) (Eng.tx_mem hi)
 ·have ht' := h.ok t ht
  have hti : t.who ≠ i := by
   intro he
   cases t with
   | hand w => have := (ht'.hand w rfl).2.1; rw [he, hs] at this; omega
   | put i' w => have := (ht'.put i' w rfl).1; have e2 : i' = i := he; rw [e2, hs] at this; omega
   | ask i' key l => have := (ht'.ask i' key l rfl).1; have e2 : i' = i := he; rw [e2, hs] at this; omega
  refine ⟨by rw [hlen]; exact ht'.lt, fun w hw => ?_, fun i' w hw => ?_, fun i' key l hw => ?_⟩
  ·rw [hne _ hti]
   have := ht'.hand w hw
   rw [← he1]; exact this
  ·subst hw
   rw [hne i' hti]
   have := ht'.put i' w rfl
   rw [← he1]; exact this
  ·subst hw
   rw [hne i' hti, hlen]
   have := ht'.ask i' key l rfl
   rw [← he1]; exact this
def Eng.told (e : Eng) (i : Nat) : Eng := ({ e with hist := e.hist ++ toldL ((i : Int) + 1) (e.tx i) } : Eng).installed ((i : Int) + 1) (e.tx i).written
def Eng.over2 (e : Eng) (i : Nat) : Eng := { (e.told i).upd i (fun x => { x with state := 2, ended := e.count + 1 }) with count := e.count + 1 }
theorem told_txs (e : Eng) (i : Nat) : (e.told i).txs = e.txs ∧ (e.told i).t = e.t ∧ (e.told i).count = e.count := by
 unfold Eng.told Eng.installed
 split
 ·exact ⟨rfl, rfl, rfl⟩
 ·split <;> exact ⟨rfl, rfl, rfl⟩
theorem over2_lets (e : Eng) (i : Nat) : (e.over2 i).lets i = ({ e.left i 0 with V := (e.told i).V, last := (e.told i).last, wr := (e.told i).wr, hist := (e.told i).hist } : Eng).upd i fun x => { x with state := 2, why := (e.tx i).why } := by
 obtain ⟨h1, h2, h3⟩ := told_txs e i
 unfold Eng.over2 Eng.lets Eng.left Eng.mark Eng.upd
 rw [h1, h2]
 simp only [Eng.mk.injEq, and_true, true_and]
 refine ⟨rfl, ?_, rfl⟩
 apply List.ext_getElem?
 intro j
 simp only [List.getElem?_modify, Eng.lets]
 by_cases h : i = j
 ·subst h
  cases hx : e.txs[i]? with
  | none => simp
  | some x => simp [Eng.tx, hx]
 ·simp [h]
theorem over2_heirs (e : Eng) (i : Nat) : (e.over2 i).heirs i = e.heirs i := by
 unfold Eng.heirs Eng.over2
 show (tbDrop (e.told i).t _).2 = _
 rw [(told_txs e i).2.1]
theorem OkT.over2 (h : OkT N e []) (hi : i < e.txs.length) (ha : (e.tx i).alive = true) : OkT N ((e.over2 i).lets i) (((e.over2 i).heirs i).map .hand) ∧ (e.over2 i).open_ + 1 = e.open_ := by
 obtain ⟨h1, h2⟩ := h.left hi ha (by simp) 0
 rw [List.append_nil] at h1
 have hst : ((e.left i 0).tx i).state = 3 := by show ((e.mark i 0).tx i).state = 3; rw [Eng.mark_tx, if_pos ⟨rfl, hi⟩]
 have hlen : (e.left i 0).txs.length = e.txs.length := Eng.mark_len e i 0
 have hw := written_len (e.tx i)
 have hfew := own_few h hi
 have hrd := h.reads _ (Eng.tx_mem hi)
 have hcount : (e.left i 0).count = e.count + 1 := rfl
 have hold : ∀ vs ∈ e.V, (vs.length : Int) ≤ e.count + 1 := h.rows
 have hlast := h.last
 have hrowsN : ∀ vs ∈ e.V, vs.length ≤ (e.count + 1).toNat ∨ (vs.length ≤ (e.count + 1).toNat + 1 ∧ vs.getLast?.map (·.1) = some (e.last + 1)) := fun vs hv => by
  left; have := hold vs hv; omega
 have hcnt := h.cnt
 have htl : ((e.hist ++ toldL ((i : Int) + 1) (e.tx i)).length : Int) ≤ (e.count + 1) * ((N : Int) + 10) := by
  have := h.hist
  rw [List.length_append]
  have e1 : (toldL ((i : Int) + 1) (e.tx i)).length ≤ N + 10 := by unfold toldL; rw [List.length_append, List.length_map, List.length_map]; omega
  rw [Int.add_mul]
  omega
 refine ⟨?_, ?_⟩
 ·rw [over2_heirs, over2_lets]
  refine h1.restyle (by omega) hst _ ?_ (fun vs hv => ?_) ?_ (fun k v hk => ?_) ?_ ?_
  ·unfold Eng.told Eng.installed
   split
   ·exact h.v10
   ·split
    ·show (putAll _ e.V _).length = 10
     rw [putAll_length]; exact h.v10
    ·exact h.v10
  ·rw [hcount]
   unfold Eng.told Eng.installed at hv
   split at hv
   ·have := hold vs hv; omega
   ·split at hv
    ·have hv' : vs ∈ putAll (e.last + 1) e.V (e.tx i).written := hv
     have := putAll_row _ hrowsN vs hv'
     omega
    ·have := hold vs hv; omega
  ·unfold Eng.told Eng.installed
   split
   ·exact hlast
   ·split
    ·rename_i hok
     unfold instOk' at hok
     simp only [Bool.and_eq_true, decide_eq_true_eq] at hok
     show 0 ≤ e.last + 1 ∧ e.last + 1 ≤ 1099511627776
     have := hok.1.2
     exact ⟨by omega, this⟩
    ·exact hlast
  ·show mget e.wr k = some v ∨ v = (i : Int) + 1
   unfold Eng.told Eng.installed at hk
   split at hk
   ·exact .inl hk
   ·have hk' : mget (mput e.wr (e.last + 1) ((i : Int) + 1)) k = some v := by split at hk <;> exact hk
    rw [mget_put] at hk'
    split at hk'
    ·exact .inr (Option.some.inj hk').symm
    ·exact .inl hk'
  ·rw [hcount]
   have h5 := h.wrs
   have h6 := length_put_le e.wr (e.last + 1) ((i : Int) + 1)
   unfold Eng.told Eng.installed
   split
   ·show (e.wr.length : Int) ≤ _; omega
   ·have : ((mput e.wr (e.last + 1) ((i : Int) + 1)).length : Int) ≤ e.count + 1 := by omega
    split <;> exact this
  ·rw [hcount]
   have : (e.told i).hist = e.hist ++ toldL ((i : Int) + 1) (e.tx i) := by
    unfold Eng.told Eng.installed
    split
    ·rfl
    ·split <;> rfl
   rw [this]; exact htl
 ·have h3 : ((e.over2 i).lets i).open_ = (e.left i 0).open_ := by
   rw [over2_lets]
   have hm := Eng.many_upd (e := ({ e.left i 0 with V := (e.told i).V, last := (e.told i).last, wr := (e.told i).wr, hist := (e.told i).hist } : Eng)) (i := i) (by show i < (e.left i 0).txs.length; omega) Tx.alive (fun x => { x with state := 2, why := (e.tx i).why })
   have ht : (({ e.left i 0 with V := (e.told i).V, last := (e.told i).last, wr := (e.told i).wr, hist := (e.told i).hist } : Eng).tx i).state = 3 := hst
   rw [if_neg (by simp [Tx.alive, ht]), if_neg (by simp [Tx.alive])] at hm
   exact hm
  have h4 : ((e.over2 i).lets i).open_ = (e.over2 i).open_ := rfl
  omega
theorem commit_eq (e : Eng) (i : Nat) (h : e.ready ((i : Int) + 1) = 0) : e.commit ((i : Int) + 1) = ((e.over2 i).frees i, 0) := by
 have hi2 : ((i : Int) + 1).toNat - 1 = i := by omega
 unfold Eng.commit
 rw [if_neg (by rw [h]; decide)]
 simp only [hi2]
 rfl
theorem frees_kept (h : OkT N e []) (hi : i < e.txs.length) (ha : (e.tx i).alive = true) : OkT N ((e.over2 i).frees i) [] := by
 obtain ⟨h1, h2⟩ := h.over2 hi ha
 have := (freesL_ok (goesOk (e.over2 i).open_) ((e.over2 i).heirs i) N ((e.over2 i).lets i) [] (by rw [List.append_nil]; exact h1) (Nat.le_refl _)).1
 exact this
theorem ready_at {n : Int} (h : e.ready n = 0) : ∃ i : Nat, n = (i : Int) + 1 ∧ i < e.txs.length ∧ (e.tx i).state = 0 := by
 unfold Eng.ready at h
 split at h
 ·rename_i hx; exact absurd h hx
 ·rename_i hx
  obtain ⟨i, rfl, hi, hst⟩ := err_num (Decidable.not_not.1 hx)
  exact ⟨i, rfl, hi, hst rfl⟩
theorem ready_13 {n : Int} (h : e.ready n = 13) : ∃ i : Nat, n = (i : Int) + 1 ∧ i < e.txs.length ∧ (e.tx i).state = 0 := by
 unfold Eng.ready at h
 split at h
 ·rcases e.err_cases n true with ⟨h1, _⟩ | ⟨j, hj, hlt, ⟨h1, _⟩ | ⟨h1, h2⟩⟩ <;> omega
 ·rename_i hx
  obtain ⟨i, rfl, hi, hst⟩ := err_num (Decidable.not_not.1 hx)
  exact ⟨i, rfl, hi, hst rfl⟩
theorem OkT.committed (h : OkT N e []) (n : Int) : OkT N (e.commit n).1 [] := by
 by_cases h0 : e.ready n = 0
 ·obtain ⟨i, rfl, hi, hs⟩ := ready_at h0
  rw [commit_eq e i h0]
  exact frees_kept h hi (by simp [Tx.alive, hs])
 ·unfold Eng.commit
  rw [if_pos h0]
  simp only
  split
  ·rename_i h13
   obtain ⟨i, rfl, hi, hs⟩ := ready_13 h13
   rw [show ((i : Int) + 1).toNat - 1 = i by omega]
   exact goes_kept h hi (by simp [Tx.alive, hs]) 13
  ·exact h
theorem OkT.aborted (h : OkT N e []) (n : Int) : OkT N (e.abort n).1 [] := by
 unfold Eng.abort
 split
 ·exact h
 ·rename_i hx
  obtain ⟨i, rfl, hi, _⟩ := err_num (Decidable.not_not.1 hx)
  rw [show ((i : Int) + 1).toNat - 1 = i by omega]
  split
  ·exact h
  ·rename_i hs
   exact goes_kept h hi (by simp only [Tx.alive, decide_eq_true_eq]; omega) 0
theorem swept_le (at_ : Int) (vs : Vers) : (swept at_ vs).length ≤ vs.length := by unfold swept; rw [List.length_drop]; omega
theorem OkT.swept (h : OkT N e []) : OkT N e.sweep.1 [] :=
 ⟨h.few, by show (e.V.map _).length = 10; rw [List.length_map]; exact h.v10, h.txs, h.wr, h.tab.imp fun Q hQ => ⟨hQ.tab, hQ.rk, hQ.hold, hQ.key, hQ.alive, hQ.waits⟩, h.all, h.six, h.cnt, fun vs hv => by
  obtain ⟨vs', hv', rfl⟩ := List.mem_map.1 hv
  have := h.rows vs' hv'
  have := swept_le e.floor vs'
  show _ ≤ e.count + 1
  omega, h.wrs, h.last, h.hist, h.reads, h.fits, by simp, by simp⟩
end Go.Proofs.YtcbokjocahnlcaaGreatDoor
/- interleafkeep's fact ran: two strict ones, each of which writes what the other one read: step by step. No walk in sight. -/
namespace Go.Proofs.YtcbokjocahnlcaaGreatDoor
open Go Go.RowKit Go.Sep
def ranA : Tx := { Tx.zero with level := 2, start := 0, begun := 1 }
def ranB : Tx := { Tx.zero with level := 2, start := 0, begun := 2 }
def ran1 : Eng := { Eng.zero with count := 1, txs := [ranA] }
def ran2 : Eng := { Eng.zero with count := 2, txs := [ranA, ranB] }
def ran3 : Eng := { Eng.zero with count := 2, txs := [{ ranA with reads := [(1, 0)] }, ranB] }
def ran4 : Eng := { Eng.zero with count := 2, txs := [{ ranA with reads := [(1, 0)] }, { ranB with reads := [(2, 0)] }] }
def ran5 : Eng := { Eng.zero with count := 2, t := ⟨[(2, 1)], [], []⟩, txs := [{ ranA with reads := [(1, 0)], writes := [(2, 5)], want := (2, 5), fore := [1] }, { ranB with reads := [(2, 0)], aft := [0] }] }
def ran6 : Eng := { Eng.zero with count := 2, t := ⟨[(2, 1), (1, 2)], [], []⟩, txs := [{ ranA with reads := [(1, 0)], writes := [(2, 5)], want := (2, 5), fore := [1], aft := [1] }, { ranB with reads := [(2, 0)], writes := [(1, 6)], want := (1, 6), aft := [0], fore := [0] }] }
def ran7 : Eng := { Eng.zero with count := 3, t := ⟨[(1, 2)], [], []⟩, txs := [{ ranA with state := 3, ended := 3, why := 13, reads := [(1, 0)], writes := [(2, 5)], want := (2, 5), fore := [1], aft := [1] }, { ranB with reads := [(2, 0)], writes := [(1, 6)], want := (1, 6), aft := [0], fore := [0] }] }
theorem ran_1 : Eng.zero.begin_ 2 = (ran1, 1, 0) := by rfl
theorem ran_2 : ran1.begin_ 2 = (ran2, 2, 0) := by rfl
theorem ran_3 : ran2.read 1 1 = (ran3, 0, 8) := by rfl
theorem ran_4 : ran3.read 2 2 = (ran4, 0, 8) := by rfl
theorem ran_5 : ran4.write 1 2 5 = (ran5, true, 0) := by rfl
theorem ran_6 : ran5.write 2 1 6 = (ran6, true, 0) := by rfl
theorem sortI_one (k : Int) : sortI [k] = [k] := (sortI_of (List.Perm.refl _) (by simp)).symm
theorem drop_6 : tbDrop ran6.t 1 = (ran7.t, []) := by
 have h : holders (strikeT ran6.t 1) 1 = [2] := by rfl
 unfold tbDrop
 rw [h, sortI_one]
 rfl
theorem goes_6 : ran6.goes 0 13 = ran7 := by
 have h1 : (ran6.mark 0 13).t = ran6.t := rfl
 have h : ran6.goes 0 13 = freesL (goesN 1) (tbDrop (ran6.mark 0 13).t 1).2 { ran6.mark 0 13 with t := (tbDrop (ran6.mark 0 13).t 1).1 } := by rfl
 rw [h, h1, drop_6]
 rfl
theorem ran_7 : ran6.commit 1 = (ran7, 13) := by
 have h : ran6.commit 1 = (ran6.goes 0 13, 13) := by rfl
 rw [h, goes_6]
theorem ready_7 : ran7.ready 2 = 0 := by rfl
theorem ran_8 : (ran7.commit 2).2 = 0 := by
 unfold Eng.commit
 rw [if_neg (by rw [ready_7]; decide)]
theorem written_7 : (ran7.tx 1).written = [(1, 6)] := by
 have h : (ran7.tx 1).writes.map (·.1) = [1] := by rfl
 unfold Tx.written
 rw [h, sortI_one]
 rfl
theorem drop_7 : tbDrop ran7.t 2 = (⟨[], [], []⟩, []) := by
 have h : holders (strikeT ran7.t 2) 2 = [1] := by rfl
 unfold tbDrop
 rw [h, sortI_one]
 rfl
theorem last_8 : (ran7.commit 2).1.last = 1 := by
 have h1 : (ran7.commit 2).1 = (ran7.over2 1).frees 1 := by
  have := commit_eq ran7 1 ready_7
  rw [show (2 : Int) = ((1 : Nat) : Int) + 1 from rfl, this]
 have ht : (ran7.over2 1).t = ran7.t := (told_txs ran7 1).2.1
 have h2 : (ran7.over2 1).frees 1 = freesL (goesN (ran7.over2 1).open_) (tbDrop (ran7.over2 1).t 2).2 { ran7.over2 1 with t := (tbDrop (ran7.over2 1).t 2).1 } := by rfl
 rw [h1, h2, ht, drop_7]
 show (ran7.told 1).last = 1
 unfold Eng.told
 rw [written_7]
 rfl
end Go.Proofs.YtcbokjocahnlcaaGreatDoor
/- errors.As at an error with a place; what Tell answers then. -/
namespace Go.Proofs.YtcbokjocahnlcaaGreatDoor
open Go Go.RowKit Go.Sep Go.Extern.Stop Go.Stop Go.Extern
theorem Tryz.noAs (v : Value) (w : World) : (Instr.typeAssert (.iface 116 v) 39 161 true).run Tryz.prog w = .ok (.tuple #[.nilIface, .bool false]) w :=
 run_typeAssert_lacksB Tryz.underlying161 (by kernel_rfl) (by kernel_rfl) v 39 w
theorem Tryz.hasUnwrap (v : Value) (w : World) : (Instr.typeAssert (.iface 116 v) 39 164 true).run Tryz.prog w = .ok (.tuple #[.iface 116 v, .bool true]) w :=
 run_typeAssert_hasB Tryz.underlying164 (by kernel_rfl) v 39 w
theorem Tryz.methodUnwrap (p : Option Addr) (w : World) : (Go.method 328 116 (.pointer p) "Unwrap").run Tryz.prog w = .ok (138, .pointer p) w := by kernel_rfl
set_option maxRecDepth 20000 in
set_option maxHeartbeats 4000000 in
theorem as_at (e p : Int) (ga t : Nat) (old : Value) (w0 w : World) (L : List HProp) (hE : ErrT w0) (hs : S w0 w (blk t 47 [old] :: blk ga 118 [.int .i64 e, .int .i64 p] :: L)) :
  Calls Tryz.prog 47 #[.iface 116 (.pointer (some ⟨ga, 0, none⟩)), .iface 112 (.pointer (some ⟨t, 0, none⟩))] w fun ev w' => ev = .returned (.bool true) ∧ S w0 w' (blk t 47 [.int .i64 e] :: blk ga 118 [.int .i64 e, .int .i64 p] :: L) := by
 have hg := hE.of hs
 unfold ErrT at hg
 have hlt := (hE.of hs).lt
 have hs1 := hs.alloc #[.pointer (some ⟨t, 0, none⟩)] 112
 have hs2 := hs1.alloc #[.pointer (some ⟨1, 112, none⟩), .pointer (some ⟨w.heap.size, 0, none⟩), .int .u64 150] 136
 have hs3 := hs2.alloc #[.pointer (some ⟨1, 112, none⟩), .pointer (some ⟨w.heap.size, 0, none⟩), .int .u64 150] 136
 have hs4 := hs3.alloc #[.int .i64 e] 47
 simp only [World.size_alloc] at hs2 hs3 hs4
 have hfin := hs4.tail.tail.tail.tail.blk_set 0 (by simp) (.int .i64 e)
 have h6 := @run_callFunc_extern Tryz.prog 69 _ (fun args => ReflectliteValue.unpack (args.getD 0 (.tuple #[]))) Tryz.func69 (by kernel_rfl) (by kernel_rfl) (by kernel_rfl) (by kernel_rfl)
 have h7 := @run_callFunc_extern Tryz.prog 70 _ (ReflectliteValue.methodAny (ReflectliteValue.valueError "reflectlite.Value.Type" 0) (fun t _ _ _ => ReflectliteType.toType t)) Tryz.func70 (by kernel_rfl) (by kernel_rfl) (by kernel_rfl) (by kernel_rfl)
 have h8 := @run_callFunc_extern Tryz.prog 71 _ (ReflectliteValue.method (ReflectliteValue.valueError "reflectlite.Value.IsNil" 0) ReflectliteValue.isNil) Tryz.func71 (by kernel_rfl) (by kernel_rfl) (by kernel_rfl) (by kernel_rfl)
 have h27 := @run_callFunc_extern Tryz.prog 133 _ (ReflectliteType.abiMethod fun t => do pure (.int .u8 (← Rtype.kind t))) Tryz.func133 (by kernel_rfl) (by kernel_rfl) (by kernel_rfl) (by kernel_rfl)
 have h37 := @run_callFunc_extern Tryz.prog 145 _ (ReflectliteType.method ReflectliteType.elem) Tryz.func145 (by kernel_rfl) (by kernel_rfl) (by kernel_rfl) (by kernel_rfl)
 have h38 := @run_callFunc_extern Tryz.prog 146 _ (ReflectliteType.relation "Implements" ReflectliteType.implements_) Tryz.func146 (by kernel_rfl) (by kernel_rfl) (by kernel_rfl) (by kernel_rfl)
 have h10 := @run_callFunc_extern Tryz.prog 84 _ ReflectliteType.typeOf Tryz.func84 (by kernel_rfl) (by kernel_rfl) (by kernel_rfl) (by kernel_rfl)
 have h35 := @run_callFunc_extern Tryz.prog 143 _ (ReflectliteType.relation "AssignableTo" ReflectliteType.assignableTo) Tryz.func143 (by kernel_rfl) (by kernel_rfl) (by kernel_rfl) (by kernel_rfl)
 have h11 := @run_callFunc_extern Tryz.prog 85 _ (ReflectliteValue.method (ReflectliteValue.valueError "reflectlite.Value.Elem" 0) ReflectliteValue.elem) Tryz.func85 (by kernel_rfl) (by kernel_rfl) (by kernel_rfl) (by kernel_rfl)
 have h12 := @run_callFunc_extern Tryz.prog 86 _ ReflectliteValue.set Tryz.func86 (by kernel_rfl) (by kernel_rfl) (by kernel_rfl) (by kernel_rfl)
 have tO := Tryz.typeOfE
 have tA := Tryz.typeOfA
 have nA := Tryz.noAs
 have hU := Tryz.hasUnwrap
 have mU := Tryz.methodUnwrap
 have a26 := Tryz.assignableA
 have ca := (hs3.tail.tail.tail.swap.blk_cell 0 rfl)
 have mA := Tryz.methodAssignableTo
 have a25 := Tryz.assignableE
 have v25 := Tryz.valueOfE
 have f6 := Tryz.valueOfT
 have f7 := Tryz.typeT
 have mK := Tryz.methodKind
 have mE := Tryz.methodElem
 have mI := Tryz.methodImplements
 have k27 := Tryz.kindT
 have k25 := Tryz.kindE
 have e27 := Tryz.elemT
 have i25 := Tryz.implementsE
 have n8 := Tryz.isNilT ⟨w.heap.size, 0, none⟩ ⟨t, 0, none⟩ _ (hs2.tail.blk_cell 0 rfl)
 have el := Tryz.elemVT ⟨w.heap.size, 0, none⟩ ⟨t, 0, none⟩ _ (hs3.tail.tail.blk_cell 0 rfl)
 have st := Tryz.setE ⟨t, 0, none⟩ ⟨w.heap.size + 1 + 1 + 1, 0, none⟩ e old _ (hs4.blk_cell 0 rfl) (hs4.tail.tail.tail.tail.blk_cell 0 rfl) (hs4.tail.tail.tail.tail.blk_free 0)
 have hg2 : ((w.alloc (.cells #[.pointer (some ⟨t, 0, none⟩)] 112)).alloc (.cells #[.pointer (some ⟨1, 112, none⟩), .pointer (some ⟨w.heap.size, 0, none⟩), .int .u64 150] 136)).cell? ⟨0, 0, none⟩ = some (.iface 156 (.agg #[.pointer (some ⟨1, 39, none⟩)])) := hE.of hs2
 have HF := hid hfin
 clear hs1 hs2 hs3 hs4 hfin hs
 go_enter Tryz.func47, Tryz.ntmps47
 go_wp2
 refine wp_loop_rounds 2 ?_
 rw [rounds_succ]
 go_wp2
 rw [rounds_succ]
 go_wp2
 go_ret
 exact ⟨rfl, HF.out⟩
set_option maxHeartbeats 1000000 in
theorem tell_at (e p : Int) (g : Nat) (w0 w : World) (L : List HProp) (hE : ErrT w0) (hs : S w0 w (blk g 118 [.int .i64 e, .int .i64 p] :: L)) :
  Calls Tryz.prog 27 #[.iface 116 (.pointer (some ⟨g, 0, none⟩))] w fun ev w' => ev = .returned (.int .i64 e) ∧ S w0 w' (blk g 118 [.int .i64 e, .int .i64 p] :: L) := by
 have hs1 := hs.alloc #[.int .i64 0] 47
 have H1 := hid hs1
 clear hs1 hs
 go_enter Tryz.func27, Tryz.ntmps27
 go_wp2_with (go_at_call 47; refine (as_at _ _ _ _ _ w0 _ L hE H1.out).mono ?_; rintro ev w' ⟨rfl, hs2⟩; have d1 := hs2.blk_cell 0 rfl; have H2 := hid hs2; clear hs2)
 go_ret
 exact ⟨rfl, H2.out.tail⟩
theorem tell_any (x : Err) (v : Value) (w0 w : World) (L : List HProp) (hE : ErrT w0) (hs : S w0 w (errP 47 118 116 v x :: L)) :
  Calls Tryz.prog 27 #[v] w fun ev w' => ev = .returned (.int .i64 (Err.errno x)) ∧ S w0 w' (errP 47 118 116 v x :: L) := by
 cases x with
 | nil =>
  obtain ⟨rfl, h⟩ := S.pur_elim hs
  exact (tell_nil w).mono fun ev w' ⟨h1, h2⟩ => ⟨h1, by rw [← h2]; exact hs⟩
 | no e =>
  obtain ⟨rfl, h⟩ := S.pur_elim hs
  exact (tell_no e w0 w L hE h).mono fun ev w' ⟨h1, h2⟩ => ⟨h1, S.pur_intro rfl h2⟩
 | at_ e p =>
  obtain ⟨g, hs1⟩ := S.ex_elim hs
  obtain ⟨rfl, hs2⟩ := S.pur_elim (S.sep_elim hs1)
  exact (tell_at e p g w0 w L hE hs2).mono fun ev w' ⟨h1, h2⟩ => ⟨h1, .ex_intro g (.sep_intro (.pur_intro rfl h2))⟩
end Go.Proofs.YtcbokjocahnlcaaGreatDoor
namespace Go.Proofs.YtcbokjocahnlcaaGreatDoor
open Go Go.RowKit Go.Sep
section
variable {w w0 : World} {L : List HProp} {b : Nat} {bs : List Nat} {k : EngV} {e : Eng} {i : Nat}
def rdX (b : Nat) (bs : List Nat) (k : EngV) (e : Eng) (i : Nat) : HProp :=
 sep (blk (blkOf bs i) 85 (txF (k.v i) (e.tx i))) (sep (mp encI (fun _ => True) (k.v i).mb (ienc (e.tx i).writes)) (sep (sl 75 1 (k.v i).fv (e.tx i).fore.length (ptrs bs (e.tx i).fore)) (sep (sl 75 1 (k.v i).av (e.tx i).aft.length (ptrs bs (e.tx i).aft)) (engX b bs k e i))))
theorem _root_.Go.Sep.S.rd_open (h : S w0 w (engO b bs k e :: L)) (hi : i < e.txs.length) : S w0 w (sl 98 2 (k.v i).rv (e.tx i).reads.length (pcells (e.tx i).reads) :: rdX b bs k e i :: L) := by
 refine (h.eng_tx hi).conv ?_
 simp only [all, rdX]
 rw [txK_parts]
 ac_rfl
theorem _root_.Go.Sep.S.rd_see (h : S w0 w (rdX b bs k e i :: L)) : w.cell? ⟨blkOf bs i, 5, none⟩ = some (k.v i).rv ∧ w.frozen? ⟨blkOf bs i, 5, none⟩ = false ∧ w.cell? ⟨b, 16, none⟩ = some (.map (some k.wb)) ∧ MapAt encI (fun _ => True) w k.wb (ienc e.wr) := by
 have h1 : S w0 w (blk (blkOf bs i) 85 (txF (k.v i) (e.tx i)) :: engX b bs k e i :: mp encI (fun _ => True) (k.v i).mb (ienc (e.tx i).writes) :: sl 75 1 (k.v i).fv (e.tx i).fore.length (ptrs bs (e.tx i).fore) :: sl 75 1 (k.v i).av (e.tx i).aft.length (ptrs bs (e.tx i).aft) :: L) :=
  h.conv (by simp only [all, rdX]; ac_rfl)
 obtain ⟨_, h2⟩ := h1.swap.sep_elim.pur_elim
 obtain ⟨_, h3, _, h5, _⟩ := h2.engG_see
 exact ⟨h1.blk_cell 5 rfl, h1.blk_free 5, (h3 2 _ rfl).1, h5⟩
theorem _root_.Go.Sep.S.rd_close {v' : Value} {r : Int × Int} (hi : i < e.txs.length) (h : S w0 w (sl 98 2 v' ((e.tx i).reads.length + 1) (pcells (e.tx i).reads ++ pcells [r]) :: rdX b bs k e i :: L)) :
  ∃ k', k'.txv = k.txv ∧ S w0 (w.setCell ⟨blkOf bs i, 5, none⟩ v') (engO b bs k' (e.upd i fun x => { x with reads := x.reads ++ [r] }) :: L) := by
 let x : Tx := { e.tx i with reads := (e.tx i).reads ++ [r] }
 let v : TxV := { k.v i with rv := v' }
 have h1 : S w0 w (blk (blkOf bs i) 85 (txF (k.v i) (e.tx i)) :: sl 98 2 v' ((e.tx i).reads.length + 1) (pcells (e.tx i).reads ++ pcells [r]) :: mp encI (fun _ => True) (k.v i).mb (ienc (e.tx i).writes) :: sl 75 1 (k.v i).fv (e.tx i).fore.length (ptrs bs (e.tx i).fore) :: sl 75 1 (k.v i).av (e.tx i).aft.length (ptrs bs (e.tx i).aft) :: engX b bs k e i :: L) :=
  h.conv (by simp only [all, rdX]; ac_rfl)
 have h2 := h1.blk_set 5 (by simp [txF]) v'
 have h3 : S w0 (w.setCell ⟨blkOf bs i, 5, none⟩ v') (txK bs (blkOf bs i) v x :: engX b bs k e i :: L) := by
  refine h2.conv ?_
  rw [txK_parts]
  have e1 : (txF (k.v i) (e.tx i)).set 5 v' = txF v x := rfl
  have e2 : pcells (e.tx i).reads ++ pcells [r] = pcells x.reads := by simp [x, pcells]
  have e3 : (e.tx i).reads.length + 1 = x.reads.length := by simp [x]
  rw [e1, e2, e3]
  simp only [all]
  show _ = sep (sep _ (sep (sl _ 2 v' _ _) (sep (mp encI (fun _ => True) (k.v i).mb (ienc (e.tx i).writes)) (sep (sl _ 1 (k.v i).fv (e.tx i).fore.length (ptrs bs (e.tx i).fore)) (sl _ 1 (k.v i).av (e.tx i).aft.length (ptrs bs (e.tx i).aft)))))) _
  ac_rfl
 have h4 := h3.eng_back hi
 refine ⟨k.set i v, rfl, ?_⟩
 have e4 : (e.upd i fun x => { x with reads := x.reads ++ [r] }) = { e with txs := e.txs.set i x } := by
  have := Eng.upd_set hi fun x => { x with reads := x.reads ++ [r] }
  show ({ e with txs := _ } : Eng) = _
  rw [show e.txs.modify i (fun x => { x with reads := x.reads ++ [r] }) = e.txs.set i x from this]
 rw [e4]
 exact h4
def rdV (b : Nat) (bs : List Nat) (k : EngV) (e : Eng) (i vb : Nat) (a v : Int) : HProp := sep (rdX b bs k e i) (blk vb 105 [.int .i64 a, .int .i64 v])
end
theorem Tryz.info98 : (Tryz.prog.info? 98).map (fun i => (i.zero, i.size, i.bytes)) = some (some (.agg #[.int .i64 0, .int .i64 0]), 2, 16) := by kernel_rfl
theorem one_pair (p : Int × Int) : ∀ u ∈ pcells [p], u.oneCell' = true := by
 intro u hu
 simp [pcells] at hu
 rcases hu with rfl | rfl <;> rfl
def ranErr (r : Option (Int × Int)) : Int := if r.isSome then 0 else 8
theorem readAns_eq (r : Option (Int × Int)) : readAns r = .tuple #[.agg #[.int .i64 ((r.map (·.1)).getD 0), .int .i64 ((r.map (·.2)).getD 0)], errV (ranErr r)] := by
 cases r with
 | none => rfl
 | some p => rfl
theorem tell_errV (x : Int) (w0 w : World) (L : List HProp) (hE : ErrT w0) (hs : S w0 w L) : Calls Tryz.prog 27 #[errV x] w fun ev w' => ev = .returned (.int .i64 x) ∧ S w0 w' L := by
 by_cases h : x = 0
 ·subst h
  rw [errV_0]
  exact (tell_nil w).mono fun ev w' ⟨h1, h2⟩ => ⟨h1, h2 ▸ hs⟩
 ·rw [errV_ne h]
  exact tell_no x w0 w L hE hs
set_option linter.unusedSimpArgs false in
set_option maxRecDepth 100000 in
set_option maxHeartbeats 8000000 in
theorem eread_any (w0 w : World) (b : Nat) (bs : List Nat) (e : Eng) (n key : Int) (L : List HProp) (N : Nat) (hE : ErrT w0) (hok : OkT N e []) (hN : N ≤ 90000000) (hs : S w0 w (engP b bs e :: L)) :
  Calls Tryz.prog 25 #[.pointer (some ⟨b, 0, none⟩), .int .i64 n, .int .i64 key] w fun r w' => r = .returned (.tuple #[.int .i64 (e.read n key).2.1, errV (e.read n key).2.2]) ∧ S w0 w' (engP b bs (e.read n key).1 :: L) := by
 have HS := hid hs
 obtain ⟨k, hs⟩ := hs.eng_open
 have hO : S w0 w (engO b bs k e :: storeP 105 b 0 e.V e.last :: tabP 3 b 11 e.t :: L) := hs.conv (by simp only [all]; ac_rfl)
 rcases e.err_cases n true with ⟨h1, h2⟩ | ⟨i, rfl, hi, ⟨h1, h2, h3⟩ | ⟨h1, h2⟩⟩
 ·have hf : e.read n key = (e, 0, 7) := by unfold Eng.read; rw [if_pos (by rw [h1]; decide), h1]
  have HF := hid hf; have HC := hid (of_miss w0 w b bs k e n true _ hO h2)
  clear hs hO h1 h2 hf hok
  go_enter Tryz.func25, Tryz.ntmps25
  go_wp2_with fail
  with_reducible refine HC.out.mono ?_
  rintro r w' ⟨rfl, rfl⟩
  go_wp2_with fail
  go_ret2
  exact ⟨by rw [HF.out]; rfl, by rw [HF.out]; exact HS.out⟩
 ·have hf : e.read ((i : Int) + 1) key = (e, 0, 6) := by unfold Eng.read; rw [if_pos (by rw [h1]; decide), h1]
  have HF := hid hf; have HC := hid (of_shut w0 w b bs k e i _ hO hi h3)
  clear hs hO h1 h2 h3 hf hok
  go_enter Tryz.func25, Tryz.ntmps25
  go_wp2_with fail
  with_reducible refine HC.out.mono ?_
  rintro r w' ⟨rfl, rfl⟩
  go_wp2_with fail
  go_ret2
  exact ⟨by rw [HF.out]; rfl, by rw [HF.out]; exact HS.out⟩
 ·have hi2 : ((i : Int) + 1).toNat - 1 = i := by omega
  have hc := of_ok w0 w b bs k e i true _ hO hi h2
  unfold ptr at hc
  have hx := (hO.eng_txc hi).2
  have c0 := hx.level
  have c2 := hx.start
  have c6 := hx.writes
  have l6 := Tryz.look2 hx.map key
  have HC := hid hc
  cases hw : mget (e.tx i).writes key with
  | some v =>
   have hf : e.read ((i : Int) + 1) key = (e, v, 0) := by unfold Eng.read; rw [if_neg (by rw [h1]; decide)]; simp only [hi2, hw]
   have HF := hid hf
   rw [hw] at l6
   simp only [Option.getD_some, Option.isSome_some] at l6
   clear hs hO h1 h2 hf hc hok hi2 hx hw
   go_enter Tryz.func25, Tryz.ntmps25
   go_wp2_with fail
   with_reducible refine HC.out.mono ?_
   rintro r w' ⟨rfl, rfl⟩
   go_wp2_with fail
   go_ret2
   exact ⟨by rw [HF.out]; rfl, by rw [HF.out]; exact HS.out⟩
  | none =>
   rw [hw] at l6
   simp only [Option.getD_none, Option.isSome_none] at l6
   have hl := last_any b 0 e.last w hs.store_last.1
   have HL := hid hl
   by_cases hk : keyOk key
   ·obtain ⟨kn, rfl⟩ : ∃ kn : Nat, key = kn := ⟨key.toNat, by have := hk.1; omega⟩
    have hkn : kn < 10 := by have := hk.2; omega
    obtain ⟨vs, hvs⟩ : ∃ vs, e.V[kn]? = some vs := ⟨e.V[kn]'(by rw [hok.v10]; exact hkn), by simp⟩
    have hvl := hok.row_le vs (List.mem_of_getElem? hvs)
    have hrow : e.row (kn : Int) = vs := by unfold Eng.row; simp [hvs]
    have hcall := fun at_ => read_any b 0 e.V e.last at_ kn vs w0 w _ hkn hs hvs (by omega)
    obtain ⟨r, hr⟩ : ∃ r, readV vs (e.asOf i) = r := ⟨_, rfl⟩
    obtain ⟨va, hva⟩ : ∃ va, (r.map (·.1)).getD 0 = va := ⟨_, rfl⟩
    obtain ⟨vv, hvv⟩ : ∃ vv, (r.map (·.2)).getD 0 = vv := ⟨_, rfl⟩
    obtain ⟨E, hEE⟩ : ∃ E, ranErr r = E := ⟨_, rfl⟩
    obtain ⟨fr, hfr⟩ : ∃ fr, (mget e.wr va).getD 0 = fr := ⟨_, rfl⟩
    have hE2 : (E == 2) = false := by rw [← hEE]; unfold ranErr; split <;> rfl
    obtain ⟨e1, he1⟩ : ∃ e1, (e.upd i fun x => { x with reads := x.reads ++ [((kn : Int), fr)] }) = e1 := ⟨_, rfl⟩
    have hf : e.read ((i : Int) + 1) (kn : Int) = if (e.tx i).level = 2 then (if (e1.sees i (kn : Int)).2 = true then ((e1.sees i (kn : Int)).1, vv, E) else ((e1.sees i (kn : Int)).1.goes i 13, 0, 13)) else (e1, vv, E) := by
     unfold Eng.read
     rw [if_neg (by rw [h1]; decide)]
     simp only [hi2, hw, hrow, hr, hva, hvv, hfr, he1]
     rw [if_neg (by simpa using hk)]
     rw [← hEE]; rfl
    have hok1 : OkT (N + 1) e1 [] := by rw [← he1]; exact hok.reads_in hi _
    have hlen1 : e1.txs.length = e.txs.length := by rw [← he1]; exact Eng.upd_len ..
    have hst1 : (e1.tx i).state = 0 := by rw [← he1]; exact (Eng.upd_keep (·.state) (fun x => { x with reads := x.reads ++ [((kn : Int), fr)] }) (fun _ => rfl) i).trans (h2 rfl)
    have hlv1 : (e1.tx i).level = (e.tx i).level := by rw [← he1]; exact Eng.upd_keep (·.level) (fun x => { x with reads := x.reads ++ [((kn : Int), fr)] }) (fun _ => rfl) i
    have hi1 : i < e1.txs.length := by omega
    obtain ⟨hok2, hlen2, hst2, _⟩ := sees_ok hok1 hi1 (kn : Int)
    have hrn : (e.tx i).reads.length + 1 ≤ 1000000000000 := by have := hok.reads _ (Eng.tx_mem hi); omega
    have hal1 : (e1.tx i).alive = true := by simp [Tx.alive, hst1]
    have hi3 : i < (e1.sees i (kn : Int)).1.txs.length := by omega
    have hal3 : ((e1.sees i (kn : Int)).1.tx i).alive = true := by unfold Tx.alive; rw [hst2, hst1]; rfl
    have hrdo : ∀ W M, S w0 W (storeP 105 b 0 e.V e.last :: tabP 3 b 11 e.t :: engO b bs k e :: M) → S w0 W (sl 98 2 (k.v i).rv (e.tx i).reads.length (pcells (e.tx i).reads) :: rdX b bs k e i :: storeP 105 b 0 e.V e.last :: tabP 3 b 11 e.t :: M) := fun W M h =>
     S.rd_open (h.conv (M := engO b bs k e :: storeP 105 b 0 e.V e.last :: tabP 3 b 11 e.t :: M) (by simp only [all]; ac_rfl)) hi
    obtain ⟨ar, cr, hvr, hcr, hcr2, _⟩ := (hrdo _ _ hs).sl_val
    rw [hvr] at hrdo
    have hq0 : ∀ (vb : Nat) W M, S w0 W (rdV b bs k e i vb va vv :: M) → W.cell? ⟨blkOf bs i, 5, none⟩ = some (.slice ar (e.tx i).reads.length cr) ∧ W.cell? ⟨b, 16, none⟩ = some (.map (some k.wb)) ∧ (Instr.lookup 57 (.map (some k.wb)) (.int .i64 va) false).run Tryz.prog W = .ok (.int .i64 fr) W ∧ W.cell? ⟨vb, 0, none⟩ = some (.int .i64 va) := fun vb W M h => by
     obtain ⟨g1, g2, g3, g4⟩ := h.sep_elim.rd_see
     have g5 := Tryz.look1 g4 va
     rw [hfr] at g5
     exact ⟨by rw [g1, hvr], g3, g5, h.sep_elim.swap.blk_cell 0 rfl⟩
    have hf0 : ∀ (vb : Nat) W M, S w0 W (rdV b bs k e i vb va vv :: M) → W.frozen? ⟨blkOf bs i, 5, none⟩ = false := fun vb W M h => h.sep_elim.rd_see.2.1
    have hcl : ∀ (vb : Nat) W v' M, S w0 W (sl 98 2 v' ((e.tx i).reads.length + 1) (pcells (e.tx i).reads ++ pcells [((kn : Int), fr)]) :: rdV b bs k e i vb va vv :: storeP 105 b 0 e.V e.last :: tabP 3 b 11 e.t :: M :: L) →
      S w0 (W.setCell ⟨blkOf bs i, 5, none⟩ v') (engP b bs e1 :: blk vb 105 [.int .i64 va, .int .i64 vv] :: L) := fun vb W v' M h => by
     have g1 : S w0 W (sl 98 2 v' ((e.tx i).reads.length + 1) (pcells (e.tx i).reads ++ pcells [((kn : Int), fr)]) :: rdX b bs k e i :: blk vb 105 [.int .i64 va, .int .i64 vv] :: storeP 105 b 0 e.V e.last :: tabP 3 b 11 e.t :: M :: L) := h.conv (by simp only [all, rdV]; ac_rfl)
     obtain ⟨k', _, g2⟩ := S.rd_close hi g1
     rw [he1] at g2
     have g3 : S w0 (W.setCell ⟨blkOf bs i, 5, none⟩ v') (storeP 105 b 0 e1.V e1.last :: tabP 3 b 11 e1.t :: engO b bs k' e1 :: blk vb 105 [.int .i64 va, .int .i64 vv] :: M :: L) := by
      rw [show e1.V = e.V by rw [← he1]; rfl, show e1.last = e.last by rw [← he1]; rfl, show e1.t = e.t by rw [← he1]; rfl]
      exact g2.conv (by simp only [all]; ac_rfl)
     exact (g3.eng_shut).conv (M := M :: engP b bs e1 :: blk vb 105 [.int .i64 va, .int .i64 vv] :: L) (by simp only [all]; ac_rfl) |>.tail
    have hlv : ∀ W M, S w0 W (engP b bs e1 :: M) → W.cell? ⟨blkOf bs i, 0, none⟩ = some (.int .i64 (e.tx i).level) := fun W M h => by
     obtain ⟨k', g⟩ := h.eng_open
     have g2 : S w0 W (engO b bs k' e1 :: storeP 105 b 0 e1.V e1.last :: tabP 3 b 11 e1.t :: M) := g.conv (by simp only [all]; ac_rfl)
     rw [← hlv1]; exact (g2.eng_txc hi1).2.level
    have HRD := hid hrdo; have HQ0 := hid hq0; have HF0 := hid hf0; have HCL0 := hid hcl; have HLV := hid hlv; have HA := hid hrn
    have HOK1 := hid hok1; have HOK2 := hid hok2; have HI1 := hid hi1; have HAL1 := hid hal1; have HI2 := hid hi3; have HAL2 := hid hal3; have HKEY := hid hk
    obtain ⟨i0, hi0, hz0, hz1, hz2⟩ := info_parts Tryz.info98
    by_cases hl0 : (e.tx i).level = 0
    ·
     have hat : e.asOf i = e.last := by unfold Eng.asOf; rw [if_pos hl0]
     have hcl2 := hcall e.last
     rw [← hat, hr, readAns_eq, hva, hvv, hEE, hat] at hcl2
     have hff : e.read ((i : Int) + 1) (kn : Int) = (e1, vv, E) := by rw [hf, if_neg (by omega)]
     have HRC := hid hcl2; have HFF := hid hff
     rw [hl0] at c0 HLV
     clear hs hO h1 h2 hc hok hi2 hx hw hl hk hkn hvs hvl hrow hcall hr hva hvv hEE hfr he1 hf hok1 hlen1 hst1 hlv1 hok2 hlen2 hst2 hrn hi1 hal1 hi3 hal3 hrdo hvr hcr hcr2 hq0 hf0 hcl hlv hl0 hat hcl2 hff HOK1 HOK2 HI1 HAL1 HI2 HAL2 HKEY
     go_enter Tryz.func25, Tryz.ntmps25
     go_wp2_with fail
     with_reducible refine HC.out.mono ?_
     rintro r1 w1 ⟨rfl, rfl⟩
     go_wp2_with (go_at_call 37; with_reducible refine HL.out.mono ?_; rintro r1 w1 ⟨rfl, rfl⟩)
     with_reducible refine HRC.out.mono ?_
     rintro r1 wv ⟨rfl, hs2⟩
     have hs3 := HRD.out _ _ ((hs2.alloc #[.int .i64 va, .int .i64 vv] 105).conv (M := storeP 105 b 0 e.V e.last :: tabP 3 b 11 e.t :: engO b bs k e :: blk wv.heap.size 105 [.int .i64 va, .int .i64 vv] :: L) (by simp only [all]; ac_rfl))
     have hs3 : S w0 _ (sl 98 2 (.slice ar (e.tx i).reads.length cr) (e.tx i).reads.length (pcells (e.tx i).reads) :: rdV b bs k e i wv.heap.size va vv :: storeP 105 b 0 e.V e.last :: tabP 3 b 11 e.t :: L) := hs3.conv (by simp only [all, rdV]; ac_rfl)
     have H3 := hid hs3
     clear hs2 hs3 HC HL HRC
     go_wp2_with fail
     with_reducible refine (tell_errV E w0 _ _ hE H3.out).mono ?_
     rintro r1 w3 ⟨rfl, hs4⟩
     have H4 := hid hs4
     clear hs4 H3
     go_wp2_with fail
     have HS0 := H4
     have HQ := hid (HQ0.out wv.heap.size); have HF := hid (HF0.out wv.heap.size); have HCL := hid (HCL0.out wv.heap.size)
     clear HQ0 HF0 HCL0 H4 HRD
     refine region_U (S := fun w' => w'.cell? ⟨blkOf bs i, 5, none⟩ = some (.slice ar (e.tx i).reads.length cr) ∧ w'.cell? ⟨b, 16, none⟩ = some (.map (some k.wb)) ∧ (Instr.lookup 57 (.map (some k.wb)) (.int .i64 va) false).run Tryz.prog w' = .ok (.int .i64 fr) w' ∧ w'.cell? ⟨wv.heap.size, 0, none⟩ = some (.int .i64 va)) (u := 18) (by kernel_rfl) (HQ.out _ _ (HS0.out.drew.nth 1 rfl)) (fun hHeld => ?_)
     refine anyU_take (i := 0) (v := ?_) rfl (by kernel_rfl) (fun _ _ _ h => h) (Or.inl ⟨by rfl, ?_⟩) hHeld ?_
     rotate_left
     ·(intro w hSw; (try dsimp only at hSw); go_simp) <;> with_reducible rfl
     try simp only [putU]
     refine anyU_take (i := 1) (v := ?_) rfl (by kernel_rfl) (fun _ _ _ h => h) (Or.inl ⟨by rfl, ?_⟩) hHeld ?_
     rotate_left
     ·(intro w hSw; (try dsimp only at hSw); go_simp) <;> with_reducible rfl
     try simp only [putU]
     refine anyU_take (i := 2) (v := ?_) rfl (by kernel_rfl) (fun _ _ _ h => h) (Or.inl ⟨by rfl, ?_⟩) hHeld ?_
     rotate_left
     ·(intro w hSw; (try dsimp only at hSw); go_simp) <;> with_reducible rfl
     try simp only [putU]
     refine anyU_take (i := 3) (v := ?_) rfl (by kernel_rfl) (fun _ _ _ h => h) (Or.inl ⟨by rfl, ?_⟩) hHeld ?_
     rotate_left
     ·(intro w hSw; (try dsimp only at hSw); go_simp) <;> with_reducible rfl
     try simp only [putU]
     refine anyU_take (i := 4) (v := ?_) rfl (by kernel_rfl) (fun _ _ _ h => h) (Or.inl ⟨by rfl, ?_⟩) hHeld ?_
     rotate_left
     ·(intro w hSw; (try dsimp only at hSw); go_simp) <;> with_reducible rfl
     try simp only [putU]
     refine anyU_take (i := 5) (v := ?_) rfl (by kernel_rfl) (fun _ _ _ h => h) (Or.inl ⟨by rfl, ?_⟩) hHeld ?_
     rotate_left
     ·(intro w hSw; (try dsimp only at hSw); go_simp) <;> with_reducible rfl
     try simp only [putU]
     refine anyU_take (i := 6) (v := ?_) rfl (by kernel_rfl) (fun _ _ _ h => h) (Or.inl ⟨by rfl, ?_⟩) hHeld ?_
     rotate_left
     ·(intro w hSw; (try dsimp only at hSw); go_simp) <;> with_reducible rfl
     try simp only [putU]
     refine anyU_take (i := 7) (v := ?_) rfl (by kernel_rfl) (fun _ _ _ h => h) (Or.inl ⟨by rfl, ?_⟩) hHeld ?_
     rotate_left
     ·(intro w hSw; (try dsimp only at hSw); go_simp) <;> with_reducible rfl
     try simp only [putU]
     refine anyU_take (i := 8) (v := ?_) rfl (by kernel_rfl) (fun _ _ _ h => h) (Or.inl ⟨by rfl, ?_⟩) hHeld ?_
     rotate_left
     ·(intro w hSw; (try dsimp only at hSw); go_simp) <;> with_reducible rfl
     try simp only [putU]
     refine anyU_take (i := 9) (v := ?_) rfl (by kernel_rfl) (fun _ _ _ h => h) (Or.inl ⟨by rfl, ?_⟩) hHeld ?_
     rotate_left
     ·(intro w hSw; (try dsimp only at hSw); go_simp) <;> with_reducible rfl
     try simp only [putU]
     refine anyU_take (i := 10) (v := ?_) rfl (by kernel_rfl) (fun _ _ _ h => h) (Or.inl ⟨by rfl, ?_⟩) hHeld ?_
     rotate_left
     ·(intro w hSw; (try dsimp only at hSw); go_simp) <;> with_reducible rfl
     try simp only [putU]
     refine anyU_take (i := 11) (v := ?_) rfl (by kernel_rfl) (fun _ _ _ h => h) (Or.inl ⟨by rfl, ?_⟩) hHeld ?_
     rotate_left
     ·(intro w hSw; (try dsimp only at hSw); go_simp) <;> with_reducible rfl
     try simp only [putU]
     refine anyU_take (i := 12) (v := ?_) rfl (by kernel_rfl) (fun _ _ _ h => h) (Or.inl ⟨by rfl, ?_⟩) hHeld ?_
     rotate_left
     ·(intro w hSw; (try dsimp only at hSw); go_simp) <;> with_reducible rfl
     try simp only [putU]
     refine anyU_take (i := 13) (v := ?_) rfl (by kernel_rfl) (fun _ _ _ h => h) (Or.inl ⟨by rfl, ?_⟩) hHeld ?_
     rotate_left
     ·(intro w hSw; (try dsimp only at hSw); go_simp) <;> with_reducible rfl
     try simp only [putU]
     have HS := hid HS0.out.drew
     clear hHeld
     refine anyU_world (fun w => Hid (S w0 w _)) HS (fun w1 HS => ?_)
     clear HS0
     refine anyU_next (rs := [14]) (by kernel_rfl) (by simp) ?_
     refine NextU.cons rfl (fun K hK => ?_) ?_
     ·go_simp
      replace HS := hid (HS.out.alloc_slU (e := 98) (size := 2) (pcells [((kn : Int), fr)]) 1 rfl (by unfold maxLen; omega))
      generalize w1.heap.size = b14 at HS ⊢
      refine act_any (fun w => Hid (S w0 w _)) HS (fun w2 HS => ?_)
      refine hK.out _ _ (fun _ => (HQ.out _ _ (HS.out.nth 2 rfl))) ?_
      clear hK K
      refine anyU_next (rs := [15]) (by kernel_rfl) (by simp) ?_
      refine NextU.cons rfl (fun K hK => ?_) ?_
      ·refine step_appU rfl (.tmp 64) (.tmp 74) 82 rfl 98 i0 _ 2 16 Tryz.underlying82 hi0 hz0 hz1 hz2 rfl (by decide) HS.out 1 (by rfl) (by rfl) _ 1 1 (pcells [((kn : Int), fr)]) (by rfl) rfl (HS.out.news_slK 0 (by rfl)) (one_pair _) HA.out (by decide) ?_
       intro v15 w3 hs
       replace HS := hid hs
       clear hs
       obtain ⟨p15, c15, rfl, _, _, _⟩ := HS.out.sl_val
       refine hK.out _ _ (fun _ => (HQ.out _ _ (HS.out.nth 2 rfl))) ?_
       clear hK K
       try simp only [putU]
       refine anyU_pure (i := 16) (v := ?_) rfl (by kernel_rfl) (fun _ _ _ h => h) (Or.inl ⟨by rfl, ?_⟩) (fun _ => (HQ.out _ _ (HS.out.nth 2 rfl))) ?_
       rotate_left
       ·(intro w _; go_simp) <;> with_reducible rfl
       try simp only [putU]
       refine anyU_take (i := 17) (v := ?_) rfl (by kernel_rfl) (fun _ _ _ h => h) (Or.inl ⟨by rfl, ?_⟩) (HQ.out _ _ (HS.out.nth 2 rfl)) ?_
       rotate_left
       ·(intro w hSw; (try dsimp only at hSw); go_simp) <;> with_reducible rfl
       try simp only [putU]
       refine anyU_next (rs := [18]) (by kernel_rfl) (by simp) ?_
       refine NextU.cons rfl (fun K hK => ?_) ?_
       ·have q1 := (HQ.out _ _ (HS.out.nth 2 rfl)).1
        have q2 := HF.out _ _ (HS.out.nth 2 rfl)
        go_simp
        refine hK.out _ _ (fun h => Bool.noConfusion (show true = false from h)) ?_
        clear hK K q1 q2
        refine anyU_done (by kernel_rfl) ?_ _
        have HZ := HS.out
        simp only [List.eraseIdx_cons_succ, List.eraseIdx_cons_zero] at HZ
        have h5 := HCL.out _ _ _ (HZ.conv (M := sl 98 2 (.slice p15 ((e.tx i).reads.length + 1) c15) ((e.tx i).reads.length + 1) (pcells (e.tx i).reads ++ pcells [((kn : Int), fr)]) :: rdV b bs k e i wv.heap.size va vv :: storeP 105 b 0 e.V e.last :: tabP 3 b 11 e.t :: sl 98 2 (.slice (some ⟨b14, 0, none⟩) 1 1) 1 (pcells [((kn : Int), fr)]) :: L) (by simp only [all]; ac_rfl))
        have H5 := hid h5
        have q0 := HLV.out _ _ h5
        have q9 := h5.swap.blk_cell 1 rfl
        clear HZ h5 HS HCL HQ HF HLV
        go_wp2_with fail
        go_ret2
        exact ⟨by rw [HFF.out]; rfl, by rw [HFF.out]; exact H5.out.swap.tail⟩
       exact NextU.nil
      exact NextU.nil
     exact NextU.nil
    ·by_cases hl2 : (e.tx i).level = 2
     ·
      have hat : e.asOf i = (e.tx i).start := by unfold Eng.asOf; rw [if_neg hl0]
      have hcl2 := hcall (e.tx i).start
      rw [← hat, hr, readAns_eq, hva, hvv, hEE, hat] at hcl2
      rw [if_pos hl2] at hf
      have hff := hf
      have HRC := hid hcl2; have HFF := hid hff
      rw [hl2] at c0 HLV
      clear hs hO h1 h2 hc hok hi2 hx hw hl hk hkn hvs hvl hrow hcall hr hva hvv hEE hfr he1 hf hok1 hlen1 hst1 hlv1 hok2 hlen2 hst2 hrn hi1 hal1 hi3 hal3 hrdo hvr hcr hcr2 hq0 hf0 hcl hlv hl0 hl2 hat hcl2 hff
      go_enter Tryz.func25, Tryz.ntmps25
      go_wp2_with fail
      with_reducible refine HC.out.mono ?_
      rintro r1 w1 ⟨rfl, rfl⟩
      go_wp2_with fail
      with_reducible refine HRC.out.mono ?_
      rintro r1 wv ⟨rfl, hs2⟩
      have hs3 := HRD.out _ _ ((hs2.alloc #[.int .i64 va, .int .i64 vv] 105).conv (M := storeP 105 b 0 e.V e.last :: tabP 3 b 11 e.t :: engO b bs k e :: blk wv.heap.size 105 [.int .i64 va, .int .i64 vv] :: L) (by simp only [all]; ac_rfl))
      have hs3 : S w0 _ (sl 98 2 (.slice ar (e.tx i).reads.length cr) (e.tx i).reads.length (pcells (e.tx i).reads) :: rdV b bs k e i wv.heap.size va vv :: storeP 105 b 0 e.V e.last :: tabP 3 b 11 e.t :: L) := hs3.conv (by simp only [all, rdV]; ac_rfl)
      have H3 := hid hs3
      clear hs2 hs3 HC HL HRC
      go_wp2_with fail
      with_reducible refine (tell_errV E w0 _ _ hE H3.out).mono ?_
      rintro r1 w3 ⟨rfl, hs4⟩
      have H4 := hid hs4
      clear hs4 H3
      go_wp2_with fail
      have HS0 := H4
      have HQ := hid (HQ0.out wv.heap.size); have HF := hid (HF0.out wv.heap.size); have HCL := hid (HCL0.out wv.heap.size)
      clear HQ0 HF0 HCL0 H4 HRD
      refine region_U (S := fun w' => w'.cell? ⟨blkOf bs i, 5, none⟩ = some (.slice ar (e.tx i).reads.length cr) ∧ w'.cell? ⟨b, 16, none⟩ = some (.map (some k.wb)) ∧ (Instr.lookup 57 (.map (some k.wb)) (.int .i64 va) false).run Tryz.prog w' = .ok (.int .i64 fr) w' ∧ w'.cell? ⟨wv.heap.size, 0, none⟩ = some (.int .i64 va)) (u := 18) (by kernel_rfl) (HQ.out _ _ (HS0.out.drew.nth 1 rfl)) (fun hHeld => ?_)
      refine anyU_take (i := 0) (v := ?_) rfl (by kernel_rfl) (fun _ _ _ h => h) (Or.inl ⟨by rfl, ?_⟩) hHeld ?_
      rotate_left
      ·(intro w hSw; (try dsimp only at hSw); go_simp) <;> with_reducible rfl
      try simp only [putU]
      refine anyU_take (i := 1) (v := ?_) rfl (by kernel_rfl) (fun _ _ _ h => h) (Or.inl ⟨by rfl, ?_⟩) hHeld ?_
      rotate_left
      ·(intro w hSw; (try dsimp only at hSw); go_simp) <;> with_reducible rfl
      try simp only [putU]
      refine anyU_take (i := 2) (v := ?_) rfl (by kernel_rfl) (fun _ _ _ h => h) (Or.inl ⟨by rfl, ?_⟩) hHeld ?_
      rotate_left
      ·(intro w hSw; (try dsimp only at hSw); go_simp) <;> with_reducible rfl
      try simp only [putU]
      refine anyU_take (i := 3) (v := ?_) rfl (by kernel_rfl) (fun _ _ _ h => h) (Or.inl ⟨by rfl, ?_⟩) hHeld ?_
      rotate_left
      ·(intro w hSw; (try dsimp only at hSw); go_simp) <;> with_reducible rfl
      try simp only [putU]
      refine anyU_take (i := 4) (v := ?_) rfl (by kernel_rfl) (fun _ _ _ h => h) (Or.inl ⟨by rfl, ?_⟩) hHeld ?_
      rotate_left
      ·(intro w hSw; (try dsimp only at hSw); go_simp) <;> with_reducible rfl
      try simp only [putU]
      refine anyU_take (i := 5) (v := ?_) rfl (by kernel_rfl) (fun _ _ _ h => h) (Or.inl ⟨by rfl, ?_⟩) hHeld ?_
      rotate_left
      ·(intro w hSw; (try dsimp only at hSw); go_simp) <;> with_reducible rfl
      try simp only [putU]
      refine anyU_take (i := 6) (v := ?_) rfl (by kernel_rfl) (fun _ _ _ h => h) (Or.inl ⟨by rfl, ?_⟩) hHeld ?_
      rotate_left
      ·(intro w hSw; (try dsimp only at hSw); go_simp) <;> with_reducible rfl
      try simp only [putU]
      refine anyU_take (i := 7) (v := ?_) rfl (by kernel_rfl) (fun _ _ _ h => h) (Or.inl ⟨by rfl, ?_⟩) hHeld ?_
      rotate_left
      ·(intro w hSw; (try dsimp only at hSw); go_simp) <;> with_reducible rfl
      try simp only [putU]
      refine anyU_take (i := 8) (v := ?_) rfl (by kernel_rfl) (fun _ _ _ h => h) (Or.inl ⟨by rfl, ?_⟩) hHeld ?_
      rotate_left
      ·(intro w hSw; (try dsimp only at hSw); go_simp) <;> with_reducible rfl
      try simp only [putU]
      refine anyU_take (i := 9) (v := ?_) rfl (by kernel_rfl) (fun _ _ _ h => h) (Or.inl ⟨by rfl, ?_⟩) hHeld ?_
      rotate_left
      ·(intro w hSw; (try dsimp only at hSw); go_simp) <;> with_reducible rfl
      try simp only [putU]
      refine anyU_take (i := 10) (v := ?_) rfl (by kernel_rfl) (fun _ _ _ h => h) (Or.inl ⟨by rfl, ?_⟩) hHeld ?_
      rotate_left
      ·(intro w hSw; (try dsimp only at hSw); go_simp) <;> with_reducible rfl
      try simp only [putU]
      refine anyU_take (i := 11) (v := ?_) rfl (by kernel_rfl) (fun _ _ _ h => h) (Or.inl ⟨by rfl, ?_⟩) hHeld ?_
      rotate_left
      ·(intro w hSw; (try dsimp only at hSw); go_simp) <;> with_reducible rfl
      try simp only [putU]
      refine anyU_take (i := 12) (v := ?_) rfl (by kernel_rfl) (fun _ _ _ h => h) (Or.inl ⟨by rfl, ?_⟩) hHeld ?_
      rotate_left
      ·(intro w hSw; (try dsimp only at hSw); go_simp) <;> with_reducible rfl
      try simp only [putU]
      refine anyU_take (i := 13) (v := ?_) rfl (by kernel_rfl) (fun _ _ _ h => h) (Or.inl ⟨by rfl, ?_⟩) hHeld ?_
      rotate_left
      ·(intro w hSw; (try dsimp only at hSw); go_simp) <;> with_reducible rfl
      try simp only [putU]
      have HS := hid HS0.out.drew
      clear hHeld
      refine anyU_world (fun w => Hid (S w0 w _)) HS (fun w1 HS => ?_)
      clear HS0
      refine anyU_next (rs := [14]) (by kernel_rfl) (by simp) ?_
      refine NextU.cons rfl (fun K hK => ?_) ?_
      ·go_simp
       replace HS := hid (HS.out.alloc_slU (e := 98) (size := 2) (pcells [((kn : Int), fr)]) 1 rfl (by unfold maxLen; omega))
       generalize w1.heap.size = b14 at HS ⊢
       refine act_any (fun w => Hid (S w0 w _)) HS (fun w2 HS => ?_)
       refine hK.out _ _ (fun _ => (HQ.out _ _ (HS.out.nth 2 rfl))) ?_
       clear hK K
       refine anyU_next (rs := [15]) (by kernel_rfl) (by simp) ?_
       refine NextU.cons rfl (fun K hK => ?_) ?_
       ·refine step_appU rfl (.tmp 64) (.tmp 74) 82 rfl 98 i0 _ 2 16 Tryz.underlying82 hi0 hz0 hz1 hz2 rfl (by decide) HS.out 1 (by rfl) (by rfl) _ 1 1 (pcells [((kn : Int), fr)]) (by rfl) rfl (HS.out.news_slK 0 (by rfl)) (one_pair _) HA.out (by decide) ?_
        intro v15 w3 hs
        replace HS := hid hs
        clear hs
        obtain ⟨p15, c15, rfl, _, _, _⟩ := HS.out.sl_val
        refine hK.out _ _ (fun _ => (HQ.out _ _ (HS.out.nth 2 rfl))) ?_
        clear hK K
        try simp only [putU]
        refine anyU_pure (i := 16) (v := ?_) rfl (by kernel_rfl) (fun _ _ _ h => h) (Or.inl ⟨by rfl, ?_⟩) (fun _ => (HQ.out _ _ (HS.out.nth 2 rfl))) ?_
        rotate_left
        ·(intro w _; go_simp) <;> with_reducible rfl
        try simp only [putU]
        refine anyU_take (i := 17) (v := ?_) rfl (by kernel_rfl) (fun _ _ _ h => h) (Or.inl ⟨by rfl, ?_⟩) (HQ.out _ _ (HS.out.nth 2 rfl)) ?_
        rotate_left
        ·(intro w hSw; (try dsimp only at hSw); go_simp) <;> with_reducible rfl
        try simp only [putU]
        refine anyU_next (rs := [18]) (by kernel_rfl) (by simp) ?_
        refine NextU.cons rfl (fun K hK => ?_) ?_
        ·have q1 := (HQ.out _ _ (HS.out.nth 2 rfl)).1
         have q2 := HF.out _ _ (HS.out.nth 2 rfl)
         go_simp
         refine hK.out _ _ (fun h => Bool.noConfusion (show true = false from h)) ?_
         clear hK K q1 q2
         refine anyU_done (by kernel_rfl) ?_ _
         have HZ := HS.out
         simp only [List.eraseIdx_cons_succ, List.eraseIdx_cons_zero] at HZ
         have h5 := HCL.out _ _ _ (HZ.conv (M := sl 98 2 (.slice p15 ((e.tx i).reads.length + 1) c15) ((e.tx i).reads.length + 1) (pcells (e.tx i).reads ++ pcells [((kn : Int), fr)]) :: rdV b bs k e i wv.heap.size va vv :: storeP 105 b 0 e.V e.last :: tabP 3 b 11 e.t :: sl 98 2 (.slice (some ⟨b14, 0, none⟩) 1 1) 1 (pcells [((kn : Int), fr)]) :: L) (by simp only [all]; ac_rfl))
         have H5 := hid h5
         have q0 := HLV.out _ _ h5
         have q9 := h5.swap.blk_cell 1 rfl
         clear HZ h5 HS HCL HQ HF HLV
         have hsaw := saw_any w0 _ b bs e1 i (kn : Int) _ (N + 1) [] HOK1.out HI1.out HAL1.out HKEY.out (by omega) H5.out
         unfold ptr at hsaw
         have HSAW := hid hsaw
         clear hsaw
         cases hsv : (e1.sees i (kn : Int)).2 with
         | true =>
          rw [hsv] at HSAW
          have hff : e.read ((i : Int) + 1) (kn : Int) = ((e1.sees i (kn : Int)).1, vv, E) := by rw [HFF.out, if_pos hsv]
          have HFF2 := hid hff
          clear hff HFF hsv
          go_wp2_with (go_at_call 44; with_reducible refine HSAW.out.mono ?_; rintro r w5 ⟨rfl, hs5⟩; have H6 := hid hs5; have q8 := hs5.swap.blk_cell 1 rfl; clear hs5)
          go_ret2
          exact ⟨by rw [HFF2.out]; rfl, by rw [HFF2.out]; exact H6.out.swap.tail⟩
         | false =>
          rw [hsv] at HSAW
          have hff : e.read ((i : Int) + 1) (kn : Int) = ((e1.sees i (kn : Int)).1.goes i 13, 0, 13) := by rw [HFF.out, if_neg (by rw [hsv]; decide)]
          have HFF2 := hid hff
          clear hff HFF hsv
          go_wp2_with (go_at_call 44; with_reducible refine HSAW.out.mono ?_; rintro r w5 ⟨rfl, hs5⟩; have H6 := hid hs5; have q8 := hs5.swap.blk_cell 1 rfl; clear hs5)
          have hgo := goes_any (e1.sees i (kn : Int)).1.open_ w0 w5 b bs _ i 13 _ (N + 602) [] HOK2.out HI2.out HAL2.out (by simp) (Nat.le_refl _) (by omega) H6.out
          have HGO := hid hgo
          clear hgo
          with_reducible refine HGO.out.mono ?_
          rintro r w6 ⟨rfl, hs6⟩
          have H7 := hid hs6
          clear hs6
          go_wp2_with fail
          go_ret2
          exact ⟨by rw [HFF2.out]; rfl, by rw [HFF2.out]; exact H7.out.swap.tail⟩
        exact NextU.nil
       exact NextU.nil
      exact NextU.nil
     ·
      have hat : e.asOf i = (e.tx i).start := by unfold Eng.asOf; rw [if_neg hl0]
      have hcl2 := hcall (e.tx i).start
      rw [← hat, hr, readAns_eq, hva, hvv, hEE, hat] at hcl2
      have hff : e.read ((i : Int) + 1) (kn : Int) = (e1, vv, E) := by rw [hf, if_neg hl2]
      have HRC := hid hcl2; have HFF := hid hff
      have hb0 : ((e.tx i).level == 0) = false := by simpa using hl0
      have hb2 : ((e.tx i).level == 2) = false := by simpa using hl2
      clear hs hO h1 h2 hc hok hi2 hx hw hl hk hkn hvs hvl hrow hcall hr hva hvv hEE hfr he1 hf hok1 hlen1 hst1 hlv1 hok2 hlen2 hst2 hrn hi1 hal1 hi3 hal3 hrdo hvr hcr hcr2 hq0 hf0 hcl hlv hl0 hl2 hat hcl2 hff HOK1 HOK2 HI1 HAL1 HI2 HAL2 HKEY
      go_enter Tryz.func25, Tryz.ntmps25
      go_wp2_with fail
      with_reducible refine HC.out.mono ?_
      rintro r1 w1 ⟨rfl, rfl⟩
      go_wp2_with fail
      with_reducible refine HRC.out.mono ?_
      rintro r1 wv ⟨rfl, hs2⟩
      have hs3 := HRD.out _ _ ((hs2.alloc #[.int .i64 va, .int .i64 vv] 105).conv (M := storeP 105 b 0 e.V e.last :: tabP 3 b 11 e.t :: engO b bs k e :: blk wv.heap.size 105 [.int .i64 va, .int .i64 vv] :: L) (by simp only [all]; ac_rfl))
      have hs3 : S w0 _ (sl 98 2 (.slice ar (e.tx i).reads.length cr) (e.tx i).reads.length (pcells (e.tx i).reads) :: rdV b bs k e i wv.heap.size va vv :: storeP 105 b 0 e.V e.last :: tabP 3 b 11 e.t :: L) := hs3.conv (by simp only [all, rdV]; ac_rfl)
      have H3 := hid hs3
      clear hs2 hs3 HC HL HRC
      go_wp2_with fail
      with_reducible refine (tell_errV E w0 _ _ hE H3.out).mono ?_
      rintro r1 w3 ⟨rfl, hs4⟩
      have H4 := hid hs4
      clear hs4 H3
      go_wp2_with fail
      have HS0 := H4
      have HQ := hid (HQ0.out wv.heap.size); have HF := hid (HF0.out wv.heap.size); have HCL := hid (HCL0.out wv.heap.size)
      clear HQ0 HF0 HCL0 H4 HRD
      refine region_U (S := fun w' => w'.cell? ⟨blkOf bs i, 5, none⟩ = some (.slice ar (e.tx i).reads.length cr) ∧ w'.cell? ⟨b, 16, none⟩ = some (.map (some k.wb)) ∧ (Instr.lookup 57 (.map (some k.wb)) (.int .i64 va) false).run Tryz.prog w' = .ok (.int .i64 fr) w' ∧ w'.cell? ⟨wv.heap.size, 0, none⟩ = some (.int .i64 va)) (u := 18) (by kernel_rfl) (HQ.out _ _ (HS0.out.drew.nth 1 rfl)) (fun hHeld => ?_)
      refine anyU_take (i := 0) (v := ?_) rfl (by kernel_rfl) (fun _ _ _ h => h) (Or.inl ⟨by rfl, ?_⟩) hHeld ?_
      rotate_left
      ·(intro w hSw; (try dsimp only at hSw); go_simp) <;> with_reducible rfl
      try simp only [putU]
      refine anyU_take (i := 1) (v := ?_) rfl (by kernel_rfl) (fun _ _ _ h => h) (Or.inl ⟨by rfl, ?_⟩) hHeld ?_
      rotate_left
      ·(intro w hSw; (try dsimp only at hSw); go_simp) <;> with_reducible rfl
      try simp only [putU]
      refine anyU_take (i := 2) (v := ?_) rfl (by kernel_rfl) (fun _ _ _ h => h) (Or.inl ⟨by rfl, ?_⟩) hHeld ?_
      rotate_left
      ·(intro w hSw; (try dsimp only at hSw); go_simp) <;> with_reducible rfl
      try simp only [putU]
      refine anyU_take (i := 3) (v := ?_) rfl (by kernel_rfl) (fun _ _ _ h => h) (Or.inl ⟨by rfl, ?_⟩) hHeld ?_
      rotate_left
      ·(intro w hSw; (try dsimp only at hSw); go_simp) <;> with_reducible rfl
      try simp only [putU]
      refine anyU_take (i := 4) (v := ?_) rfl (by kernel_rfl) (fun _ _ _ h => h) (Or.inl ⟨by rfl, ?_⟩) hHeld ?_
      rotate_left
      ·(intro w hSw; (try dsimp only at hSw); go_simp) <;> with_reducible rfl
      try simp only [putU]
      refine anyU_take (i := 5) (v := ?_) rfl (by kernel_rfl) (fun _ _ _ h => h) (Or.inl ⟨by rfl, ?_⟩) hHeld ?_
      rotate_left
      ·(intro w hSw; (try dsimp only at hSw); go_simp) <;> with_reducible rfl
      try simp only [putU]
      refine anyU_take (i := 6) (v := ?_) rfl (by kernel_rfl) (fun _ _ _ h => h) (Or.inl ⟨by rfl, ?_⟩) hHeld ?_
      rotate_left
      ·(intro w hSw; (try dsimp only at hSw); go_simp) <;> with_reducible rfl
      try simp only [putU]
      refine anyU_take (i := 7) (v := ?_) rfl (by kernel_rfl) (fun _ _ _ h => h) (Or.inl ⟨by rfl, ?_⟩) hHeld ?_
      rotate_left
      ·(intro w hSw; (try dsimp only at hSw); go_simp) <;> with_reducible rfl
      try simp only [putU]
      refine anyU_take (i := 8) (v := ?_) rfl (by kernel_rfl) (fun _ _ _ h => h) (Or.inl ⟨by rfl, ?_⟩) hHeld ?_
      rotate_left
      ·(intro w hSw; (try dsimp only at hSw); go_simp) <;> with_reducible rfl
      try simp only [putU]
      refine anyU_take (i := 9) (v := ?_) rfl (by kernel_rfl) (fun _ _ _ h => h) (Or.inl ⟨by rfl, ?_⟩) hHeld ?_
      rotate_left
      ·(intro w hSw; (try dsimp only at hSw); go_simp) <;> with_reducible rfl
      try simp only [putU]
      refine anyU_take (i := 10) (v := ?_) rfl (by kernel_rfl) (fun _ _ _ h => h) (Or.inl ⟨by rfl, ?_⟩) hHeld ?_
      rotate_left
      ·(intro w hSw; (try dsimp only at hSw); go_simp) <;> with_reducible rfl
      try simp only [putU]
      refine anyU_take (i := 11) (v := ?_) rfl (by kernel_rfl) (fun _ _ _ h => h) (Or.inl ⟨by rfl, ?_⟩) hHeld ?_
      rotate_left
      ·(intro w hSw; (try dsimp only at hSw); go_simp) <;> with_reducible rfl
      try simp only [putU]
      refine anyU_take (i := 12) (v := ?_) rfl (by kernel_rfl) (fun _ _ _ h => h) (Or.inl ⟨by rfl, ?_⟩) hHeld ?_
      rotate_left
      ·(intro w hSw; (try dsimp only at hSw); go_simp) <;> with_reducible rfl
      try simp only [putU]
      refine anyU_take (i := 13) (v := ?_) rfl (by kernel_rfl) (fun _ _ _ h => h) (Or.inl ⟨by rfl, ?_⟩) hHeld ?_
      rotate_left
      ·(intro w hSw; (try dsimp only at hSw); go_simp) <;> with_reducible rfl
      try simp only [putU]
      have HS := hid HS0.out.drew
      clear hHeld
      refine anyU_world (fun w => Hid (S w0 w _)) HS (fun w1 HS => ?_)
      clear HS0
      refine anyU_next (rs := [14]) (by kernel_rfl) (by simp) ?_
      refine NextU.cons rfl (fun K hK => ?_) ?_
      ·go_simp
       replace HS := hid (HS.out.alloc_slU (e := 98) (size := 2) (pcells [((kn : Int), fr)]) 1 rfl (by unfold maxLen; omega))
       generalize w1.heap.size = b14 at HS ⊢
       refine act_any (fun w => Hid (S w0 w _)) HS (fun w2 HS => ?_)
       refine hK.out _ _ (fun _ => (HQ.out _ _ (HS.out.nth 2 rfl))) ?_
       clear hK K
       refine anyU_next (rs := [15]) (by kernel_rfl) (by simp) ?_
       refine NextU.cons rfl (fun K hK => ?_) ?_
       ·refine step_appU rfl (.tmp 64) (.tmp 74) 82 rfl 98 i0 _ 2 16 Tryz.underlying82 hi0 hz0 hz1 hz2 rfl (by decide) HS.out 1 (by rfl) (by rfl) _ 1 1 (pcells [((kn : Int), fr)]) (by rfl) rfl (HS.out.news_slK 0 (by rfl)) (one_pair _) HA.out (by decide) ?_
        intro v15 w3 hs
        replace HS := hid hs
        clear hs
        obtain ⟨p15, c15, rfl, _, _, _⟩ := HS.out.sl_val
        refine hK.out _ _ (fun _ => (HQ.out _ _ (HS.out.nth 2 rfl))) ?_
        clear hK K
        try simp only [putU]
        refine anyU_pure (i := 16) (v := ?_) rfl (by kernel_rfl) (fun _ _ _ h => h) (Or.inl ⟨by rfl, ?_⟩) (fun _ => (HQ.out _ _ (HS.out.nth 2 rfl))) ?_
        rotate_left
        ·(intro w _; go_simp) <;> with_reducible rfl
        try simp only [putU]
        refine anyU_take (i := 17) (v := ?_) rfl (by kernel_rfl) (fun _ _ _ h => h) (Or.inl ⟨by rfl, ?_⟩) (HQ.out _ _ (HS.out.nth 2 rfl)) ?_
        rotate_left
        ·(intro w hSw; (try dsimp only at hSw); go_simp) <;> with_reducible rfl
        try simp only [putU]
        refine anyU_next (rs := [18]) (by kernel_rfl) (by simp) ?_
        refine NextU.cons rfl (fun K hK => ?_) ?_
        ·have q1 := (HQ.out _ _ (HS.out.nth 2 rfl)).1
         have q2 := HF.out _ _ (HS.out.nth 2 rfl)
         go_simp
         refine hK.out _ _ (fun h => Bool.noConfusion (show true = false from h)) ?_
         clear hK K q1 q2
         refine anyU_done (by kernel_rfl) ?_ _
         have HZ := HS.out
         simp only [List.eraseIdx_cons_succ, List.eraseIdx_cons_zero] at HZ
         have h5 := HCL.out _ _ _ (HZ.conv (M := sl 98 2 (.slice p15 ((e.tx i).reads.length + 1) c15) ((e.tx i).reads.length + 1) (pcells (e.tx i).reads ++ pcells [((kn : Int), fr)]) :: rdV b bs k e i wv.heap.size va vv :: storeP 105 b 0 e.V e.last :: tabP 3 b 11 e.t :: sl 98 2 (.slice (some ⟨b14, 0, none⟩) 1 1) 1 (pcells [((kn : Int), fr)]) :: L) (by simp only [all]; ac_rfl))
         have H5 := hid h5
         have q0 := HLV.out _ _ h5
         have q9 := h5.swap.blk_cell 1 rfl
         clear HZ h5 HS HCL HQ HF HLV
         go_wp2_with fail
         go_ret2
         exact ⟨by rw [HFF.out]; rfl, by rw [HFF.out]; exact H5.out.swap.tail⟩
        exact NextU.nil
       exact NextU.nil
      exact NextU.nil
   ·have hf : e.read ((i : Int) + 1) key = (e, 0, 2) := by
     unfold Eng.read
     rw [if_neg (by rw [h1]; decide)]
     simp only [hi2, hw]
     rw [if_pos hk]
    have HF := hid hf
    by_cases hl0 : (e.tx i).level = 0
    ·rw [hl0] at c0
     have HRN := hid (read_no b 0 key e.last w0 w _ HS.out hk)
     clear hs hO h1 h2 hf hc hok hi2 hx hw hl hk hl0
     go_enter Tryz.func25, Tryz.ntmps25
     go_wp2_with fail
     with_reducible refine HC.out.mono ?_
     rintro r1 w1 ⟨rfl, rfl⟩
     go_wp2_with (go_at_call 37; with_reducible refine HL.out.mono ?_; rintro r1 w1 ⟨rfl, rfl⟩)
     with_reducible refine HRN.out.mono ?_
     rintro r1 wv ⟨rfl, hs2⟩
     have H3 := hid (hs2.alloc #[.int .i64 0, .int .i64 0] 105)
     clear hs2 HC HL HRN
     go_wp2_with fail
     with_reducible refine (tell_no 2 w0 _ _ hE H3.out).mono ?_
     rintro r1 w3 ⟨rfl, hs4⟩
     have H4 := hid hs4
     clear hs4 H3
     go_wp2_with fail
     go_ret2
     exact ⟨by rw [HF.out]; rfl, by rw [HF.out]; exact H4.out.tail⟩
    ·have hb0 : ((e.tx i).level == 0) = false := by simpa using hl0
     have HRN := hid (read_no b 0 key (e.tx i).start w0 w _ HS.out hk)
     clear hs hO h1 h2 hf hc hok hi2 hx hw hl hk hl0
     go_enter Tryz.func25, Tryz.ntmps25
     go_wp2_with fail
     with_reducible refine HC.out.mono ?_
     rintro r1 w1 ⟨rfl, rfl⟩
     go_wp2_with fail
     with_reducible refine HRN.out.mono ?_
     rintro r1 wv ⟨rfl, hs2⟩
     have H3 := hid (hs2.alloc #[.int .i64 0, .int .i64 0] 105)
     clear hs2 HC HL HRN
     go_wp2_with fail
     with_reducible refine (tell_no 2 w0 _ _ hE H3.out).mono ?_
     rintro r1 w3 ⟨rfl, hs4⟩
     have H4 := hid hs4
     clear hs4 H3
     go_wp2_with fail
     go_ret2
     exact ⟨by rw [HF.out]; rfl, by rw [HF.out]; exact H4.out.tail⟩
end Go.Proofs.YtcbokjocahnlcaaGreatDoor
