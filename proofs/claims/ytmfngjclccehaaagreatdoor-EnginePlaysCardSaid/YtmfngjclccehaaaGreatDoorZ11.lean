/- The reference's engine: Read: one read more. -/
import Derived.Test.YtmfngjclccehaaaGreatDoorZ0
import Derived.Test.YtmfngjclccehaaaGreatDoorZ2
import Derived.Test.YtmfngjclccehaaaGreatDoorZ10
import Derived.Test.YtmfngjclccehaaaGreatDoorZ4
import Derived.Lib.SlKeysI
import Derived.Maps.OwnSet
/- The keys of a map of whole numbers, sorted by the library: slices.Sorted(maps.Keys(m)). -/
namespace Go.Sep
open Go Go.RowKit
theorem S.row_in {w0 w w' : World} {L : List HProp} {e : TypeId} {size n : Nat} {v : Value} {xs : List Value} (h : S w0 w L) (hb : Below w.heap.size w w') (hr : w'.ownsRow w.heap.size e size v n xs) : S w0 w' (sl e size v n xs :: L) := by
 obtain ⟨hl, hr⟩ := hr
 rcases hr with ⟨rfl, rfl⟩ | ⟨g, cap, cur, rfl, hg, hh, hn, hc, hs, ht⟩
 ·obtain rfl : xs = [] := List.eq_nil_of_length_eq_zero (by simpa using hl)
  exact (h.onto hb).sl_nil
 ·have h1 : S w0 w' (blk g e cur.toList :: L) := by
   refine h.add hb ?_
   obtain ⟨gh, p, hgh⟩ := blk_hp g e cur.toList
   refine ⟨gh, p, fun b i t ht' => ?_⟩
   obtain ⟨rfl, ht'⟩ := hgh b i t ht'
   refine ⟨hg, ?_⟩
   unfold holds
   rw [hh]
   cases i with
   | none => simp at ht'; subst ht'; simp
   | some i => obtain ⟨v, hv, rfl⟩ := ht'; simp at hv ⊢; exact hv
  have hcl : cur.toList.length = cap * size := by simpa using hs
  refine .sl_intro (g := g) (cap := cap) (pre := []) (sp := cur.toList.drop (n * size)) (post := []) ⟨rfl, hl, ?_, hn, hc⟩ ?_
  ·rw [← ht, List.length_take, List.length_drop, hcl]
   have : n * size ≤ cap * size := Nat.mul_le_mul_right _ hn
   omega
  ·rw [← ht]
   simpa using h1
end Go.Sep
namespace Go.Proofs.YtmfngjclccehaaaGreatDoor
open Go Go.RowKit Go.Sep Go.Proofs
def anyV : Value → Option (DataW Unit × List MemPlace) := fun _ => some (.lit (.bool true), [])
theorem keyOf_int {x : Int} (hx : 0 ≤ x ∧ x ≤ 1000000) : keyOf Tryz.prog 3 (.int .i64 x) = some (.int .i64 x) := by
 have hm : IntKind.min .i64 = -9223372036854775808 := by decide
 have hM : IntKind.max .i64 = 9223372036854775807 := by decide
 have hw : (Lit.int .i64 x).wf = true := by
  simp only [Lit.wf, Bool.and_eq_true, decide_eq_true_eq]
  omega
 simp [keyOf, mapKey, Tryz.underlying3, hw]
theorem ownsMap_mp {w : World} {b : Nat} {D : List (Int × Int)} (h : Sep.MapAt Sep.encI (fun _ => True) w b (ienc D)) (hk : ∀ p ∈ D, 0 ≤ p.1 ∧ p.1 ≤ 1000000) (hl : D.length ≤ 1000000) :
  ∃ D0 : DataW Unit, w.ownsMap Tryz.prog 3 anyV b D.length D0 ∧ (intKeys D0).Perm (D.map (·.1)) ∧ Maps.size D0 = D.length := by
 obtain ⟨es, clock, hb, hm⟩ := h
 have hkey := keys_of hm
 have hsz : es.toList.length = D.length := by
  have := congrArg List.length hkey
  simpa [ienc] using this
 have hsz2 : es.size = D.length := by simpa using hsz
 have hrd : ∀ x ∈ es.toList, ∃ p ∈ D, x.key = .int .i64 p.1 := fun x hx => by
  have : x.key ∈ es.toList.map (·.key) := List.mem_map.2 ⟨x, hx, rfl⟩
  rw [hkey] at this
  obtain ⟨k, hk', e1⟩ := List.mem_map.1 this
  simp only [ienc, List.map_map, Function.comp_def] at hk'
  obtain ⟨p, hp, rfl⟩ := List.mem_map.1 hk'
  exact ⟨p, hp, e1.symm⟩
 have hrg : ∀ x ∈ es.toList, ∃ p ∈ D, x.key = .int .i64 p.1 ∧ WideElems.rd Tryz.prog 3 anyV x = some (.int .i64 p.1, .lit (.bool true)) := fun x hx => by
  obtain ⟨p, hp, e1⟩ := hrd x hx
  refine ⟨p, hp, e1, ?_⟩
  unfold WideElems.rd
  rw [e1, keyOf_int (hk p hp)]
  rfl
 refine ⟨.map ((es.toList.map (WideElems.rg Tryz.prog 3 anyV)).foldr DataW.insert []), ⟨es, clock, hb, ⟨?_, ⟨hm.2.2.1, hm.2.1, ?_⟩, fun x hx => ?_⟩, by omega, rfl⟩, ?_, ?_⟩
 ·unfold maxLen; omega
 ·rw [hkey]
  exact hm.2.2.2.1.map (f := Sep.encI) (fun a b hab => fun e => hab (by simpa [Sep.encI] using e))
 ·obtain ⟨p, _, _, e1⟩ := hrg x hx
  exact ⟨_, e1⟩
 ·have h1 : (intKeys (.map ((es.toList.map (WideElems.rg Tryz.prog 3 anyV)).foldr DataW.insert [])) : List Int) = ((es.toList.map (WideElems.rg Tryz.prog 3 anyV)).foldr DataW.insert []).map fun p => Go.intOf p.1 := rfl
  rw [h1]
  refine ((WideShapes.sorted_perm _).map _).trans ?_
  rw [List.map_map]
  have h2 : es.toList.map ((fun p : Lit × DataW Unit => Go.intOf p.1) ∘ WideElems.rg Tryz.prog 3 anyV) = D.map (·.1) := by
   have h3 : es.toList.map ((fun p : Lit × DataW Unit => Go.intOf p.1) ∘ WideElems.rg Tryz.prog 3 anyV) = (es.toList.map (·.key)).map fun v => match v with | .int _ n => n | _ => 0 := by
    rw [List.map_map]
    apply List.map_congr_left
    intro x hx
    obtain ⟨p, _, e1, e2⟩ := hrg x hx
    simp only [Function.comp_apply]
    rw [WideElems.rg_of e2, e1]
    rfl
   rw [h3, hkey]
   simp [ienc, List.map_map, Function.comp_def, Sep.encI]
  rw [h2]
 ·show ((es.toList.map (WideElems.rg Tryz.prog 3 anyV)).foldr DataW.insert []).length = _
  rw [(WideShapes.sorted_perm _).length_eq]
  simpa using hsz
theorem sortsA (m : Nat) : AnyZI.SortsIn Tryz.prog Tryz.sortedA_ren Fence.wide m :=
 ⟨fun blk off cap ss W hH hblk hsz => callsIn_wide.2 (AnyM.slices_Sort_int Tryz.sortA blk off cap ss W hH hblk hsz),
  fun p cap W => callsIn_wide.2 (AnyM.slices_Sort_int_none Tryz.sortA p cap W)⟩
theorem keys_any (mb : Nat) (w : World) : Calls Tryz.prog 73 #[.map (some mb)] w fun e w' => e = .returned (.func (.func 94) #[] #[.pointer (some ⟨w.heap.size, 0, none⟩)]) ∧ w' = w.alloc (.cells #[.map (some mb)] 53) :=
 (callsIn_wide (n := 6)).1 (AnyZI.keys_in Tryz.keysA Fence.wide 6 trivial rfl (some mb) w)
theorem sorted_any (w0 w : World) (B mb : Nat) (D : List (Int × Int)) (L : List HProp) (hs : S w0 w L) (hc : w.cell? ⟨B, 0, none⟩ = some (.map (some mb))) (hB : B < w.heap.size) (hm : Sep.MapAt Sep.encI (fun _ => True) w mb (ienc D))
  (hk : ∀ p ∈ D, 0 ≤ p.1 ∧ p.1 ≤ 1000000) (hl : D.length ≤ 1000000) :
  Calls Tryz.prog 72 #[.func (.func 94) #[] #[.pointer (some ⟨B, 0, none⟩)]] w fun e w' => ∃ v, e = .returned v ∧ S w0 w' (sl 3 1 v D.length (icells (sortI (D.map (·.1)))) :: L) := by
 obtain ⟨D0, hown, hperm, hsz⟩ := ownsMap_mp hm hk hl
 refine (callsIn_wide (n := 6)).1 ?_
 have hseq : SeqGives Fence.wide 3 Tryz.prog 94 #[.pointer (some ⟨B, 0, none⟩)] encZ (fun ss => ss.Perm (intKeys D0)) (Maps.size D0) w :=
  AnyZI.keys_gives (ρ := Tryz.keysA_ren) { Tryz.keysA with } Fence.wide 3 trivial rfl (by omega) B mb D.length D0 w hB hc hown
 have cS := AnyZI.sorted_in Tryz.sortedA Fence.wide 6 trivial trivial trivial trivial rfl (by omega) (sortsA _) (enters_of Tryz.func93 (by kernel_rfl) rfl) 94 #[.pointer (some ⟨B, 0, none⟩)] trivial (enters_of Tryz.func94 (by kernel_rfl) rfl) _ _ (by rw [hsz]; unfold maxLen; omega) (by rw [hsz]; omega) w hseq
 change CallsIn _ _ Tryz.prog 72 _ _ _ at cS
 refine cS.mono fun e w' ⟨v, ss, he, hS, hrow, _, hb⟩ => ⟨v, he, ?_⟩
 have hlen : ss.length = D.length := by rw [hS.length_eq, hperm.length_eq]; simp
 have hsort : ss.mergeSort (fun x y => decide (x ≤ y)) = sortI (D.map (·.1)) := sortI_of ((List.mergeSort_perm _ _).trans (hS.trans hperm)) (by
  have := List.pairwise_mergeSort (le := fun x y : Int => decide (x ≤ y)) (fun a b c h1 h2 => by simp only [decide_eq_true_eq] at *; omega) (fun a b => by simp only [Bool.or_eq_true, decide_eq_true_eq]; omega) ss
  exact this.imp fun h => by simpa using h)
 rw [hsort, hlen] at hrow
 exact hs.row_in hb hrow
end Go.Proofs.YtmfngjclccehaaaGreatDoor
/- The program's engine: Writes. -/
namespace Go.Proofs.YtmfngjclccehaaaGreatDoor
open Go Go.RowKit Go.Sep
theorem own_few {e : Eng} {N : Nat} {U : List Task} {i : Nat} (h : OkT N e U) (hi : i < e.txs.length) : (e.tx i).writes.length ≤ 10 := by
 have h1 := h.at hi
 have := Sep.few (S := [0, 1, 2, 3, 4, 5, 6, 7, 8, 9]) h1.keys (fun k hk => by
  obtain ⟨p, hp, rfl⟩ := List.mem_map.1 hk
  have := (h1.own p hp).1
  unfold keyOk at this
  simp; omega)
 simpa using this
theorem written_len (x : Tx) : x.written.length = x.writes.length := by simp [Tx.written, sortI_len]
set_option maxRecDepth 40000 in
set_option maxHeartbeats 4000000 in
theorem ewrites_any (w0 w : World) (b : Nat) (bs : List Nat) (e : Eng) (n : Int) (L : List HProp) (N : Nat) (U : List Task) (hok : OkT N e U) (hs : S w0 w (engP b bs e :: L)) :
  Calls Tryz.prog 41 #[.pointer (some ⟨b, 0, none⟩), .int .i64 n] w fun r w' => ∃ v, r = .returned (.tuple #[v, errV (e.writes n).2]) ∧ S w0 w' (sl 101 2 v (e.writes n).1.length (pcells (e.writes n).1) :: engP b bs e :: L) := by
 have HS := hid hs
 obtain ⟨k, hs⟩ := hs.eng_open
 have hO : S w0 w (engO b bs k e :: storeP 107 b 0 e.V e.last :: tabP 3 b 11 e.t :: L) := hs.conv (by simp only [all]; ac_rfl)
 rcases e.err_cases n false with ⟨h1, h2⟩ | ⟨i, rfl, hi, ⟨h1, h2, h3⟩ | ⟨h1, h2⟩⟩
 ·have hf : e.writes n = ([], 7) := by unfold Eng.writes; rw [if_pos (by rw [h1]; decide), h1]
  have HF := hid hf; have HC := hid (of_miss w0 w b bs k e n false _ hO h2)
  clear hs hO h1 h2 hf hok
  go_enter Tryz.func41, Tryz.ntmps41
  go_wp2_with fail
  with_reducible refine HC.out.mono ?_
  rintro r w' ⟨rfl, rfl⟩
  go_wp2_with fail
  go_ret2
  refine ⟨.slice none 0 0, by rw [HF.out]; rfl, ?_⟩
  rw [HF.out]
  exact HS.out.sl_nil
 ·cases h2
 ·have hi2 : ((i : Int) + 1).toNat - 1 = i := by omega
  have hf : e.writes ((i : Int) + 1) = ((e.tx i).written, 0) := by unfold Eng.writes; rw [if_neg (by rw [h1]; decide), hi2]
  have hc := of_ok w0 w b bs k e i false _ hO hi h2
  unfold ptr at hc
  have hq : ∀ W M, S w0 W (engO b bs k e :: M) → W.cell? ⟨blkOf bs i, 6, none⟩ = some (.map (some (k.v i).mb)) ∧ Sep.MapAt Sep.encI (fun _ => True) W (k.v i).mb (ienc (e.tx i).writes) := fun W M h => ⟨(h.eng_txc hi).2.writes, (h.eng_txc hi).2.map⟩
  have hfew := own_few hok hi
  have hkeys : ∀ p ∈ (e.tx i).writes, 0 ≤ p.1 ∧ p.1 ≤ 1000000 := fun p hp => by
   have := ((hok.at hi).own p hp).1
   unfold keyOk at this; omega
  have c6 := (hq _ _ hO).1
  have hO2 := hO.alloc #[.map (some (k.v i).mb)] 53
  have hso := sorted_any w0 _ w.heap.size (k.v i).mb (e.tx i).writes _ hO2 (hO2.blk_cell 0 rfl) (by simp) ((hq _ _ hO2.tail).2) hkeys (by omega)
  obtain ⟨D, hD⟩ : ∃ D, (e.tx i).writes = D := ⟨_, rfl⟩
  obtain ⟨ks, hks⟩ : ∃ ks, sortI (D.map (·.1)) = ks := ⟨_, rfl⟩
  have hkl : ks.length = D.length := by rw [← hks, sortI_len]; simp
  have hwr : (e.tx i).written = ks.map fun k => (k, (mget D k).getD 0) := by unfold Tx.written; rw [hD, hks]
  rw [hD, hks] at hso
  rw [hD] at hfew
  have hq2 : ∀ W M, S w0 W (engO b bs k e :: M) → W.cell? ⟨blkOf bs i, 6, none⟩ = some (.map (some (k.v i).mb)) ∧ ∀ kk, (Instr.lookup 53 (.map (some (k.v i).mb)) (.int .i64 kk) false).run Tryz.prog W = .ok (.int .i64 ((mget D kk).getD 0)) W := fun W M h => by
   obtain ⟨g1, g2⟩ := hq W M h
   rw [hD] at g2
   exact ⟨g1, fun kk => Tryz.look1 g2 kk⟩
  have HF := hid hf; have HC := hid hc; have HQ := hid hq2; have HSO := hid hso; have HWR := hid hwr; have HKL := hid hkl
  clear hs hO h1 h2 hf hc hok hi2 hq hkeys hO2 hso hwr hq2 hks hD
  go_enter Tryz.func41, Tryz.ntmps41
  go_wp2_with fail
  with_reducible refine HC.out.mono ?_
  rintro r w' ⟨rfl, rfl⟩
  go_wp2_with fail
  with_reducible refine (keys_any _ _).mono ?_
  rintro r w' ⟨rfl, rfl⟩
  go_wp2_with fail
  with_reducible refine HSO.out.mono ?_
  rintro r w2 ⟨u, rfl, hs2⟩
  have hs3 : S w0 w2 (sl 3 1 u ks.length (icells ks) :: engO b bs k e :: storeP 107 b 0 e.V e.last :: tabP 3 b 11 e.t :: L) := by
   rw [HKL.out]
   exact (hs2.conv (M := blk w.heap.size 53 [.map (some (k.v i).mb)] :: sl 3 1 u D.length (icells ks) :: engO b bs k e :: storeP 107 b 0 e.V e.last :: tabP 3 b 11 e.t :: L) (by simp only [all]; ac_rfl)).tail
  obtain ⟨au, cu, rfl, hcu, hcu2, _⟩ := hs3.sl_val
  have hkn : ks.length ≤ 10 := by rw [HKL.out]; exact hfew
  have H3 := hid (S.sl_nil (e := 101) (size := 2) hs3)
  clear hs2 hs3 HC HSO HKL hfew hcu2
  go_wp2_with fail
  clear c6
  go_loopw [8, 27] (fun ov c wr => ∃ j : Nat, j ≤ ks.length ∧ c = .int .i64 j ∧ S w0 wr (sl 101 2 ov j (pcells ((ks.take j).map fun k => (k, (mget D k).getD 0))) :: sl 3 1 (.slice au ks.length cu) ks.length (icells ks) :: engO b bs k e :: storeP 107 b 0 e.V e.last :: tabP 3 b 11 e.t :: L)) (fun _ c _ => ks.length - (intOf c).toNat)
  case atStart => exact ⟨0, Nat.zero_le _, rfl, H3.out⟩
  case round =>
   rename World => wr
   obtain ⟨j, hj, rfl, hsr⟩ := hrel
   clear H3
   by_cases hlt : j < ks.length
   ·have hp : ks[j]? = some ks[j] := by simp [hlt]
    generalize ks[j] = kk at hp
    obtain ⟨g, og, rfl, _, d0⟩ := hsr.swap.sl_int hp
    obtain ⟨ao, co, rfl, hco, hco2, _⟩ := hsr.sl_val
    unfold maxLen at hco2
    obtain ⟨c6, l6⟩ := HQ.out _ _ hsr.rot3
    replace l6 := l6 kk
    have hst : (ks.take (j + 1)).map (fun k => (k, (mget D k).getD 0)) = (ks.take j).map (fun k => (k, (mget D k).getD 0)) ++ [(kk, (mget D kk).getD 0)] := by rw [take_succ_get hp, List.map_append]; rfl
    have hpl : (pcells ((ks.take j).map fun k => (k, (mget D k).getD 0))).length = j * 2 := hsr.sl_len
    generalize (ks.take j).map (fun k => (k, (mget D k).getD 0)) = O at *
    generalize (mget D kk).getD 0 = vv at *
    obtain ⟨i0, hi0, hz0, hz1, hz2⟩ := info_parts Tryz.info101
    have hs5 := hsr.alloc #[.int .i64 kk, .int .i64 vv] 101
    have hn5 := news_blk hs5
    have H5 := hid hs5.tail; have HN := hid hn5; have HST := hid hst; have HPL := hid hpl
    clear hsr hs5 hn5 hst hp hpl
    go_wp2_with (at_builtin; refine wpList_append rfl (.tmp 31) (.tmp 40) 22 rfl 101 i0 _ 2 16 Tryz.underlying22 hi0 hz0 hz1 hz2 rfl (by decide) H5.out rfl (some ⟨wr.heap.size, 0, none⟩) 1 1 [.int .i64 kk, .int .i64 vv] rfl rfl HN.out (by simp [Value.oneCell']) (by unfold maxLen; omega) (by omega) ?_; intro v1 w5 hs6; have H6 := hid hs6; clear hs6)
    go_roundw
    case rel => exact ⟨j + 1, by omega, by go_num, by rw [HST.out, pcells_append]; exact H6.out⟩
    case measure => simp [intOf]; omega
   ·obtain rfl : j = ks.length := by omega
    rw [List.take_length] at hsr
    have H4 := hid hsr
    clear hsr
    go_wp2_with fail
    go_ret2
    refine ⟨_, by rw [HF.out]; rfl, ?_⟩
    rw [HF.out, HWR.out, List.length_map]
    have h6 := H4.out.conv (M := sl 3 1 (.slice au ks.length cu) ks.length (icells ks) :: storeP 107 b 0 e.V e.last :: tabP 3 b 11 e.t :: engO b bs k e :: sl 101 2 _ ks.length (pcells (ks.map fun k => (k, (mget D k).getD 0))) :: L) (by simp only [all]; ac_rfl)
    exact (S.eng_shut h6.tail).swap
end Go.Proofs.YtmfngjclccehaaaGreatDoor
/- Transactions at the same time: what holds of an engine is kept by Commit, Abort, Sweep. No walk in sight. -/
namespace Go.Proofs.YtmfngjclccehaaaGreatDoor
open Go Go.RowKit Go.Sep
variable {e : Eng} {i j : Nat} {N M : Nat} {U : List Task}
theorem put1_row {n : Nat} {at_ : Int} {V : List Vers} (p : Int × Int) (h : ∀ vs ∈ V, vs.length ≤ n ∨ (vs.length ≤ n + 1 ∧ vs.getLast?.map (·.1) = some at_)) :
  ∀ vs ∈ put1 at_ V p, vs.length ≤ n ∨ (vs.length ≤ n + 1 ∧ vs.getLast?.map (·.1) = some at_) := by
 intro vs hvs
 unfold put1 at hvs
 rcases List.mem_or_eq_of_mem_set hvs with h1 | rfl
 ·exact h vs h1
 ·have hv : (((V[p.1.toNat]?).getD []).length ≤ n ∨ (((V[p.1.toNat]?).getD []).length ≤ n + 1 ∧ ((V[p.1.toNat]?).getD []).getLast?.map (·.1) = some at_)) := by
   cases hg : V[p.1.toNat]? with
   | none => left; simp
   | some x => exact h x (List.mem_of_getElem? hg)
  generalize (V[p.1.toNat]?).getD [] = x at hv
  split
  ·rename_i hl
   have hne : x ≠ [] := by rintro rfl; simp at hl
   have := List.length_pos_iff.2 hne
   right
   refine ⟨?_, by simp⟩
   rw [List.length_append, List.length_dropLast, List.length_singleton]
   omega
  ·rename_i hl
   right
   refine ⟨?_, by simp⟩
   rw [List.length_append, List.length_singleton]
   rcases hv with hv | hv
   ·omega
   ·exact absurd hv.2 hl
theorem putAll_row {n : Nat} {at_ : Int} (l : Vers) : ∀ {V : List Vers}, (∀ vs ∈ V, vs.length ≤ n ∨ (vs.length ≤ n + 1 ∧ vs.getLast?.map (·.1) = some at_)) → ∀ vs ∈ putAll at_ V l, vs.length ≤ n ∨ (vs.length ≤ n + 1 ∧ vs.getLast?.map (·.1) = some at_) := by
 induction l with
 | nil => intro V h; simpa [putAll] using h
 | cons p l ih => intro V h vs hvs; exact ih (put1_row p h) vs hvs
theorem OkT.restyle (h : OkT N e U) (hi : i < e.txs.length) (hs : (e.tx i).state = 3) (c : Int) {V' : List Vers} {last' : Int} {wr' : List (Int × Int)} {hist' : List Op1} (hV : V'.length = 10) (hrows : ∀ vs ∈ V', (vs.length : Int) ≤ e.count + 1) (hlast : 0 ≤ last' ∧ last' ≤ 1099511627776)
  (hwr : ∀ k v, mget wr' k = some v → mget e.wr k = some v ∨ v = (i : Int) + 1) (hwrl : (wr'.length : Int) ≤ e.count) (hhist : (hist'.length : Int) ≤ e.count * ((N : Int) + 10)) :
  OkT N (({ e with V := V', last := last', wr := wr', hist := hist' } : Eng).upd i fun x => { x with state := 2, why := c }) U := by
 obtain ⟨Q, hQ⟩ := h.tab
 generalize he1 : ({ e with V := V', last := last', wr := wr', hist := hist' } : Eng) = e1
 have htxe : ∀ j, e1.tx j = e.tx j := fun j => by rw [← he1]; rfl
 have hl1 : e1.txs.length = e.txs.length := by rw [← he1]
 have hlen : (e1.upd i fun x => { x with state := 2, why := c }).txs.length = e.txs.length := by rw [Eng.upd_len, hl1]
 have hi1 : i < e1.txs.length := by omega
 have hne : ∀ j, j ≠ i → (e1.upd i fun x => { x with state := 2, why := c }).tx j = e.tx j := fun j hj => by rw [Eng.upd_ne (Ne.symm hj), htxe]
 have hself : (e1.upd i fun x => { x with state := 2, why := c }).tx i = { e.tx i with state := 2, why := c } := by rw [Eng.upd_self hi1, htxe]
 have hm1 := Eng.many_upd hi1 Tx.alive (fun x => { x with state := 2, why := c })
 have hm2 := Eng.many_upd hi1 Tx.waits (fun x => { x with state := 2, why := c })
 rw [if_neg (by rw [htxe]; simp [Tx.alive, hs]), if_neg (by simp [Tx.alive])] at hm1
 rw [if_neg (by rw [htxe]; simp [Tx.waits, hs]), if_neg (by simp [Tx.waits])] at hm2
 have hop : (e1.upd i fun x => { x with state := 2, why := c }).open_ = e.open_ := by
  have : e1.many Tx.alive = e.open_ := by rw [← he1]; rfl
  unfold Eng.many at hm1 this; unfold Eng.open_ at *; omega
 have hwt : (e1.upd i fun x => { x with state := 2, why := c }).many Tx.waits = e.many Tx.waits := by
  have : e1.many Tx.waits = e.many Tx.waits := by rw [← he1]; rfl
  omega
 have hQi : ∀ k, ∀ x ∈ Q k, x.toNat - 1 ≠ i := fun k x hx he => by
  have := hQ.alive k x hx
  rw [he] at this
  simp [Tx.alive, hs] at this
 have hcn : (e1.upd i fun x => { x with state := 2, why := c }).count = e.count := by rw [← he1]; rfl
 refine ⟨by rw [hlen]; exact h.few, by rw [← he1]; exact hV, ?_, fun k v hk => ?_, ⟨Q, ?_, hQ.rk, ?_, fun k x hx => by rw [hlen]; exact hQ.key k x hx, fun k x hx => by rw [hne _ (hQi k x hx)]; exact hQ.alive k x hx, fun k x hx => by rw [hne _ (hQi k x (List.mem_of_mem_tail hx))]; exact hQ.waits k x hx⟩, fun j hj hs' => ?_, by rw [hop]; exact h.six, by rw [hop, hlen, hcn]; exact h.cnt, fun vs hv => ?_, ?_, by rw [← he1]; exact hlast, ?_, ?_, ?_, fun t ht => ?_, h.apart⟩
 ·rw [hlen]
  refine Eng.upd_all (by rw [← he1]; exact h.txs) fun _ => ?_
  have := h.at hi
  rw [htxe]
  exact ⟨by simp, this.refs, this.want, this.own, this.keys⟩
 ·have hk' : mget wr' k = some v := by rw [← he1] at hk; exact hk
  rw [hlen]
  rcases hwr k v hk' with g | rfl
  ·obtain ⟨g1, g2, g3⟩ := h.wr k v g
   rw [hne]
   ·exact ⟨g1, g2, g3⟩
   ·intro e2; rw [e2, hs] at g3; omega
  ·rw [show ((i : Int) + 1).toNat - 1 = i by omega, hself]
   exact ⟨by omega, by omega, rfl⟩
 ·rw [← he1]; exact hQ.tab
 ·rw [← he1]; exact hQ.hold
 ·rw [hlen] at hj
  have hji : j ≠ i := by rintro rfl; rw [hself] at hs'; cases hs'
  rw [hne j hji] at hs'
  rcases h.all j hj hs' with g | g
  ·left; rw [← he1]; exact g
  ·exact .inr g
 ·rw [hcn]; rw [← he1] at hv; exact hrows vs hv
 ·rw [hcn, ← he1]; exact hwrl
 ·rw [hcn, ← he1]; exact hhist
 ·refine Eng.upd_all (p := fun x => x.reads.length ≤ N) (by rw [← he1]; exact h.reads) fun _ => ?_
  rw [htxe]; exact h.reads (e.tx i) (Eng.tx_mem hi)
 ·rw [hwt]
  refine Eng.upd_all (p := fun x => x.fore.length + 200 * e.many Tx.waits + slacks U ≤ N ∧ x.aft.length + 200 * e.many Tx.waits + slacks U ≤ N) (by rw [← he1]; exact h.fits) fun _ => ?_
  rw [htxe]; exact h.fits (e.tx i) (Eng.tx_mem hi)
 ·have ht' := h.ok t ht
  have hti : t.who ≠ i := by
   intro he
   cases t with
   | hand w => have := (ht'.hand w rfl).2.1; rw [he, hs] at this; omega
   | put i' w => have := (ht'.put i' w rfl).1; have e2 : i' = i := he; rw [e2, hs] at this; omega
   | ask i' key l => have := (ht'.ask i' key l rfl).1; have e2 : i' = i := he; rw [e2, hs] at this; omega
  refine ⟨by rw [hlen]; exact ht'.lt, fun w hw => ?_, fun i' w hw => ?_, fun i' key l hw => ?_⟩
  ·rw [hne _ hti]
   have := ht'.hand w hw
   rw [← he1]; exact this
  ·subst hw
   rw [hne i' hti]
   have := ht'.put i' w rfl
   rw [← he1]; exact this
  ·subst hw
   rw [hne i' hti, hlen]
   have := ht'.ask i' key l rfl
   rw [← he1]; exact this
def Eng.told (e : Eng) (i : Nat) : Eng := ({ e with hist := e.hist ++ toldL ((i : Int) + 1) (e.tx i) } : Eng).installed ((i : Int) + 1) (e.tx i).written
def Eng.over2 (e : Eng) (i : Nat) : Eng := { (e.told i).upd i (fun x => { x with state := 2, ended := e.count + 1 }) with count := e.count + 1 }
theorem told_txs (e : Eng) (i : Nat) : (e.told i).txs = e.txs ∧ (e.told i).t = e.t ∧ (e.told i).count = e.count := by
 unfold Eng.told Eng.installed
 split
 ·exact ⟨rfl, rfl, rfl⟩
 ·split <;> exact ⟨rfl, rfl, rfl⟩
theorem over2_lets (e : Eng) (i : Nat) : (e.over2 i).lets i = ({ e.left i 0 with V := (e.told i).V, last := (e.told i).last, wr := (e.told i).wr, hist := (e.told i).hist } : Eng).upd i fun x => { x with state := 2, why := (e.tx i).why } := by
 obtain ⟨h1, h2, h3⟩ := told_txs e i
 unfold Eng.over2 Eng.lets Eng.left Eng.mark Eng.upd
 rw [h1, h2]
 simp only [Eng.mk.injEq, and_true, true_and]
 refine ⟨rfl, ?_, rfl⟩
 apply List.ext_getElem?
 intro j
 simp only [List.getElem?_modify, Eng.lets]
 by_cases h : i = j
 ·subst h
  cases hx : e.txs[i]? with
  | none => simp
  | some x => simp [Eng.tx, hx]
 ·simp [h]
theorem over2_heirs (e : Eng) (i : Nat) : (e.over2 i).heirs i = e.heirs i := by
 unfold Eng.heirs Eng.over2
 show (tbDrop (e.told i).t _).2 = _
 rw [(told_txs e i).2.1]
theorem OkT.over2 (h : OkT N e []) (hi : i < e.txs.length) (ha : (e.tx i).alive = true) : OkT N ((e.over2 i).lets i) (((e.over2 i).heirs i).map .hand) ∧ (e.over2 i).open_ + 1 = e.open_ := by
 obtain ⟨h1, h2⟩ := h.left hi ha (by simp) 0
 rw [List.append_nil] at h1
 have hst : ((e.left i 0).tx i).state = 3 := by show ((e.mark i 0).tx i).state = 3; rw [Eng.mark_tx, if_pos ⟨rfl, hi⟩]
 have hlen : (e.left i 0).txs.length = e.txs.length := Eng.mark_len e i 0
 have hw := written_len (e.tx i)
 have hfew := own_few h hi
 have hrd := h.reads _ (Eng.tx_mem hi)
 have hcount : (e.left i 0).count = e.count + 1 := rfl
 have hold : ∀ vs ∈ e.V, (vs.length : Int) ≤ e.count + 1 := h.rows
 have hlast := h.last
 have hrowsN : ∀ vs ∈ e.V, vs.length ≤ (e.count + 1).toNat ∨ (vs.length ≤ (e.count + 1).toNat + 1 ∧ vs.getLast?.map (·.1) = some (e.last + 1)) := fun vs hv => by
  left; have := hold vs hv; omega
 have hcnt := h.cnt
 have htl : ((e.hist ++ toldL ((i : Int) + 1) (e.tx i)).length : Int) ≤ (e.count + 1) * ((N : Int) + 10) := by
  have := h.hist
  rw [List.length_append]
  have e1 : (toldL ((i : Int) + 1) (e.tx i)).length ≤ N + 10 := by unfold toldL; rw [List.length_append, List.length_map, List.length_map]; omega
  rw [Int.add_mul]
  omega
 refine ⟨?_, ?_⟩
 ·rw [over2_heirs, over2_lets]
  refine h1.restyle (by omega) hst _ ?_ (fun vs hv => ?_) ?_ (fun k v hk => ?_) ?_ ?_
  ·unfold Eng.told Eng.installed
   split
   ·exact h.v10
   ·split
    ·show (putAll _ e.V _).length = 10
     rw [putAll_length]; exact h.v10
    ·exact h.v10
  ·rw [hcount]
   unfold Eng.told Eng.installed at hv
   split at hv
   ·have := hold vs hv; omega
   ·split at hv
    ·have hv' : vs ∈ putAll (e.last + 1) e.V (e.tx i).written := hv
     have := putAll_row _ hrowsN vs hv'
     omega
    ·have := hold vs hv; omega
  ·unfold Eng.told Eng.installed
   split
   ·exact hlast
   ·split
    ·rename_i hok
     unfold instOk' at hok
     simp only [Bool.and_eq_true, decide_eq_true_eq] at hok
     show 0 ≤ e.last + 1 ∧ e.last + 1 ≤ 1099511627776
     have := hok.1.2
     exact ⟨by omega, this⟩
    ·exact hlast
  ·show mget e.wr k = some v ∨ v = (i : Int) + 1
   unfold Eng.told Eng.installed at hk
   split at hk
   ·exact .inl hk
   ·have hk' : mget (mput e.wr (e.last + 1) ((i : Int) + 1)) k = some v := by split at hk <;> exact hk
    rw [mget_put] at hk'
    split at hk'
    ·exact .inr (Option.some.inj hk').symm
    ·exact .inl hk'
  ·rw [hcount]
   have h5 := h.wrs
   have h6 := length_put_le e.wr (e.last + 1) ((i : Int) + 1)
   unfold Eng.told Eng.installed
   split
   ·show (e.wr.length : Int) ≤ _; omega
   ·have : ((mput e.wr (e.last + 1) ((i : Int) + 1)).length : Int) ≤ e.count + 1 := by omega
    split <;> exact this
  ·rw [hcount]
   have : (e.told i).hist = e.hist ++ toldL ((i : Int) + 1) (e.tx i) := by
    unfold Eng.told Eng.installed
    split
    ·rfl
    ·split <;> rfl
   rw [this]; exact htl
 ·have h3 : ((e.over2 i).lets i).open_ = (e.left i 0).open_ := by
   rw [over2_lets]
   have hm := Eng.many_upd (e := ({ e.left i 0 with V := (e.told i).V, last := (e.told i).last, wr := (e.told i).wr, hist := (e.told i).hist } : Eng)) (i := i) (by show i < (e.left i 0).txs.length; omega) Tx.alive (fun x => { x with state := 2, why := (e.tx i).why })
   have ht : (({ e.left i 0 with V := (e.told i).V, last := (e.told i).last, wr := (e.told i).wr, hist := (e.told i).hist } : Eng).tx i).state = 3 := hst
   rw [if_neg (by simp [Tx.alive, ht]), if_neg (by simp [Tx.alive])] at hm
   exact hm
  have h4 : ((e.over2 i).lets i).open_ = (e.over2 i).open_ := rfl
  omega
theorem commit_eq (e : Eng) (i : Nat) (h : e.ready ((i : Int) + 1) = 0) : e.commit ((i : Int) + 1) = ((e.over2 i).frees i, 0) := by
 have hi2 : ((i : Int) + 1).toNat - 1 = i := by omega
 unfold Eng.commit
 rw [if_neg (by rw [h]; decide)]
 simp only [hi2]
 rfl
theorem frees_kept (h : OkT N e []) (hi : i < e.txs.length) (ha : (e.tx i).alive = true) : OkT N ((e.over2 i).frees i) [] := by
 obtain ⟨h1, h2⟩ := h.over2 hi ha
 have := (freesL_ok (goesOk (e.over2 i).open_) ((e.over2 i).heirs i) N ((e.over2 i).lets i) [] (by rw [List.append_nil]; exact h1) (Nat.le_refl _)).1
 exact this
theorem ready_at {n : Int} (h : e.ready n = 0) : ∃ i : Nat, n = (i : Int) + 1 ∧ i < e.txs.length ∧ (e.tx i).state = 0 := by
 unfold Eng.ready at h
 split at h
 ·rename_i hx; exact absurd h hx
 ·rename_i hx
  obtain ⟨i, rfl, hi, hst⟩ := err_num (Decidable.not_not.1 hx)
  exact ⟨i, rfl, hi, hst rfl⟩
theorem ready_13 {n : Int} (h : e.ready n = 13) : ∃ i : Nat, n = (i : Int) + 1 ∧ i < e.txs.length ∧ (e.tx i).state = 0 := by
 unfold Eng.ready at h
 split at h
 ·rcases e.err_cases n true with ⟨h1, _⟩ | ⟨j, hj, hlt, ⟨h1, _⟩ | ⟨h1, h2⟩⟩ <;> omega
 ·rename_i hx
  obtain ⟨i, rfl, hi, hst⟩ := err_num (Decidable.not_not.1 hx)
  exact ⟨i, rfl, hi, hst rfl⟩
theorem OkT.committed (h : OkT N e []) (n : Int) : OkT N (e.commit n).1 [] := by
 by_cases h0 : e.ready n = 0
 ·obtain ⟨i, rfl, hi, hs⟩ := ready_at h0
  rw [commit_eq e i h0]
  exact frees_kept h hi (by simp [Tx.alive, hs])
 ·unfold Eng.commit
  rw [if_pos h0]
  simp only
  split
  ·rename_i h13
   obtain ⟨i, rfl, hi, hs⟩ := ready_13 h13
   rw [show ((i : Int) + 1).toNat - 1 = i by omega]
   exact goes_kept h hi (by simp [Tx.alive, hs]) 13
  ·exact h
theorem OkT.aborted (h : OkT N e []) (n : Int) : OkT N (e.abort n).1 [] := by
 unfold Eng.abort
 split
 ·exact h
 ·rename_i hx
  obtain ⟨i, rfl, hi, _⟩ := err_num (Decidable.not_not.1 hx)
  rw [show ((i : Int) + 1).toNat - 1 = i by omega]
  split
  ·exact h
  ·rename_i hs
   exact goes_kept h hi (by simp only [Tx.alive, decide_eq_true_eq]; omega) 0
theorem swept_le (at_ : Int) (vs : Vers) : (swept at_ vs).length ≤ vs.length := by unfold swept; rw [List.length_drop]; omega
theorem OkT.swept (h : OkT N e []) : OkT N e.sweep.1 [] :=
 ⟨h.few, by show (e.V.map _).length = 10; rw [List.length_map]; exact h.v10, h.txs, h.wr, h.tab.imp fun Q hQ => ⟨hQ.tab, hQ.rk, hQ.hold, hQ.key, hQ.alive, hQ.waits⟩, h.all, h.six, h.cnt, fun vs hv => by
  obtain ⟨vs', hv', rfl⟩ := List.mem_map.1 hv
  have := h.rows vs' hv'
  have := swept_le e.floor vs'
  show _ ≤ e.count + 1
  omega, h.wrs, h.last, h.hist, h.reads, h.fits, by simp, by simp⟩
end Go.Proofs.YtmfngjclccehaaaGreatDoor
/- Transactions at the same time: what one wrote, key by key. No walk in sight. -/
namespace Go.Proofs.YtmfngjclccehaaaGreatDoor
open Go Go.RowKit Go.Sep
def keysUp (n : Nat) : List Int := (List.range n).map fun k : Nat => (k : Int)
def writUp (x : Tx) (n : Nat) : List (Int × Int) := ((keysUp n).filter x.wrote).map fun k => (k, (mget x.writes k).getD 0)
theorem keysUp_succ (n : Nat) : keysUp (n + 1) = keysUp n ++ [(n : Int)] := by simp [keysUp, List.range_succ]
theorem writUp_step (x : Tx) (n : Nat) : writUp x (n + 1) = if x.wrote n = true then writUp x n ++ [((n : Int), (mget x.writes n).getD 0)] else writUp x n := by
 unfold writUp
 rw [keysUp_succ, List.filter_append, List.map_append]
 by_cases h : x.wrote n = true
 ·simp [h]
 ·simp [h]
theorem writUp_le (x : Tx) (n : Nat) : (writUp x n).length ≤ n := by
 unfold writUp
 rw [List.length_map]
 refine Nat.le_trans (List.length_filter_le _ _) ?_
 simp [keysUp]
theorem writUp_all {n : Nat} {x : Tx} (h : TxOk n x) : writUp x 10 = x.written := by
 unfold writUp Tx.written
 congr 1
 have hmem : ∀ k, k ∈ (keysUp 10).filter x.wrote ↔ k ∈ x.writes.map (·.1) := by
  intro k
  simp only [List.mem_filter, keysUp, List.mem_map, List.mem_range]
  constructor
  ·rintro ⟨_, hw⟩
   unfold Tx.wrote at hw
   obtain ⟨v, hv⟩ := Option.isSome_iff_exists.1 hw
   exact ⟨(k, v), mget_some hv, rfl⟩
  ·rintro ⟨p, hp, rfl⟩
   have hk := (h.own p hp).1
   refine ⟨⟨p.1.toNat, by have := hk.2; omega, by have := hk.1; omega⟩, ?_⟩
   unfold Tx.wrote
   rw [mget_mem h.keys (show (p.1, p.2) ∈ x.writes from hp)]; rfl
 refine sortI_of ?_ ?_
 ·refine (List.perm_ext_iff_of_nodup ?_ h.keys).2 hmem
  refine List.Pairwise.filter _ ?_
  unfold keysUp
  refine List.pairwise_map.2 (List.Pairwise.imp ?_ (List.nodup_range (n := 10)))
  intro a b hab
  omega
 ·refine List.Pairwise.filter _ ?_
  unfold keysUp
  refine List.pairwise_map.2 (List.Pairwise.imp ?_ (List.pairwise_lt_range (n := 10)))
  intro a b hab
  omega
end Go.Proofs.YtmfngjclccehaaaGreatDoor
/- The reference's engine: Writes. -/
namespace Go.Proofs.YtmfngjclccehaaaGreatDoor
open Go Go.RowKit Go.Sep
set_option maxRecDepth 40000 in
set_option maxHeartbeats 4000000 in
theorem rwrites_any (w0 w : World) (b : Nat) (bs : List Nat) (k : RenV) (e : Eng) (n : Int) (L : List HProp) (N : Nat) (U : List Task) (hok : OkT N e U) (hs : S w0 w (renO b bs k e :: L)) :
  Calls Tryz.prog 40 #[.pointer (some ⟨b, 0, none⟩), .int .i64 n] w fun r w' => ∃ v, r = .returned (.tuple #[v, .int .i64 (e.writes n).2]) ∧ S w0 w' (sl 101 2 v (e.writes n).1.length (pcells (e.writes n).1) :: renO b bs k e :: L) := by
 rcases e.err_cases n false with ⟨h1, h2⟩ | ⟨i, rfl, hi, ⟨h1, h2, h3⟩ | ⟨h1, h2⟩⟩
 ·have hf : e.writes n = ([], 7) := by unfold Eng.writes; rw [if_pos (by rw [h1]; decide), h1]
  have HF := hid hf; have HC := hid (rof_bad w0 w b bs k e n false _ hs h1 (by decide)); have HS := hid hs
  clear hs h1 h2 hf hok
  go_enter Tryz.func40, Tryz.ntmps40
  go_wp2_with fail
  with_reducible refine HC.out.mono ?_
  rintro r w' ⟨rfl, rfl⟩
  go_wp2_with fail
  go_ret2
  exact ⟨_, by rw [HF.out]; rfl, by rw [HF.out]; exact HS.out.sl_nil⟩
 ·cases h2
 ·have hi2 : ((i : Int) + 1).toNat - 1 = i := by omega
  have hf : e.writes ((i : Int) + 1) = (writUp (e.tx i) 10, 0) := by unfold Eng.writes; rw [if_neg (by rw [h1]; decide), hi2, writUp_all (hok.at hi)]
  have hc := rof_ok w0 w b bs k e i false L hs h1
  have hown : ∀ W M, S w0 W (renO b bs k e :: M) → ∀ key, Calls Tryz.prog 49 #[.pointer (some ⟨blkOf bs i, 0, none⟩), .int .i64 key] W fun r w' => r = .returned (.tuple #[.int .i64 ((mget (e.tx i).writes key).getD 0), .bool ((e.tx i).wrote key)]) ∧ W = w' := fun W M h key => rown_any W _ i bs _ _ key (h.ren_txc hi).2
  have HF := hid hf; have HC := hid hc; have HO := hid hown
  have H2 := hid (hs.sl_nil (e := 101) (size := 2))
  clear hs h1 h2 hf hc hok hi2 hown
  go_enter Tryz.func40, Tryz.ntmps40
  go_wp2_with fail
  with_reducible refine HC.out.mono ?_
  rintro r w' ⟨rfl, rfl⟩
  clear HC
  go_wp2_with fail
  go_loopw [8, 21] (fun u cn wr => ∃ n : Nat, n ≤ 10 ∧ cn = .int .i64 n ∧ S w0 wr (sl 101 2 u (writUp (e.tx i) n).length (pcells (writUp (e.tx i) n)) :: renO b bs k e :: L)) (fun _ cn _ => 10 - (intOf cn).toNat)
  case atStart => exact ⟨0, Nat.zero_le _, rfl, H2.out⟩
  case round =>
   rename World => wr
   obtain ⟨n, hn, rfl, hsr⟩ := hrel
   clear H2
   by_cases hlt : n < 10
   ·obtain ⟨ao, co, rfl, hco, hco2, _⟩ := hsr.sl_val
    unfold maxLen at hco2
    have hle := writUp_le (e.tx i) n
    have hsc := writUp_step (e.tx i) n
    have hcall := HO.out _ _ hsr.swap n
    generalize (mget (e.tx i).writes (n : Int)).getD 0 = v at hcall hsc
    generalize (e.tx i).wrote (n : Int) = ok at hcall hsc
    have HC := hid hcall; have HSC := hid hsc; have HSR := hid hsr
    clear hcall hsc hsr
    cases ok with
    | false =>
     go_wp2_with fail
     with_reducible refine HC.out.mono ?_
     rintro r w2 ⟨rfl, rfl⟩
     have hx : writUp (e.tx i) (n + 1) = writUp (e.tx i) n := by rw [HSC.out]; rfl
     have HX := hid hx
     clear hx HC HSC
     go_wp2_with fail
     go_roundw
     case rel => exact ⟨n + 1, by omega, by go_num, by rw [HX.out]; exact HSR.out⟩
     case measure => simp [intOf]; omega
    | true =>
     go_wp2_with fail
     with_reducible refine HC.out.mono ?_
     rintro r w2 ⟨rfl, rfl⟩
     have hx : writUp (e.tx i) (n + 1) = writUp (e.tx i) n ++ [((n : Int), v)] := by rw [HSC.out]; rfl
     obtain ⟨i0, hi0, hz0, hz1, hz2⟩ := info_parts Tryz.info101
     have hs3 := HSR.out.alloc #[.int .i64 (n : Int), .int .i64 v] 101
     have hn1 := news_blk hs3
     have HX := hid hx; have HN1 := hid hn1; have H9 := hid hs3.tail
     clear hs3 hn1 hx HC HSC
     go_wp2_with (at_builtin; refine wpList_append rfl (.tmp 31) (.tmp 35) 22 rfl 101 i0 _ 2 16 Tryz.underlying22 hi0 hz0 hz1 hz2 rfl (by decide) H9.out rfl (some ⟨wr.heap.size, 0, none⟩) 1 1 [.int .i64 (n : Int), .int .i64 v] rfl rfl HN1.out (by simp [Value.oneCell']) (by unfold maxLen; omega) (by omega) ?_; intro v1 w5 hs1; have HS := hid hs1; clear hs1)
     go_roundw
     case rel => exact ⟨n + 1, by omega, by go_num, by rw [HX.out, pcells_append, List.length_append, List.length_singleton]; exact HS.out⟩
     case measure => simp [intOf]; omega
   ·obtain rfl : n = 10 := by omega
    have H4 := hid hsr
    clear hsr
    go_wp2_with fail
    go_ret2
    exact ⟨_, by rw [HF.out]; rfl, by rw [HF.out]; exact H4.out⟩
end Go.Proofs.YtmfngjclccehaaaGreatDoor
namespace Go.Proofs.YtmfngjclccehaaaGreatDoor
open Go Go.RowKit Go.Sep
theorem Tryz.info129 : (Tryz.prog.info? 129).map (fun i => (i.zero, i.size, i.bytes)) = some (some (.agg #[.int .i64 0, .int .i64 0, .bool false, .int .i64 0]), 4, 32) := by kernel_rfl
theorem one_opR (o : Op1) : ∀ u ∈ opc o, u.oneCell' = true := by
 intro u hu
 simp [opc] at hu
 rcases hu with rfl | rfl | rfl | rfl <;> rfl
theorem rrX_see {w w0 : World} {L : List HProp} {b : Nat} {bs : List Nat} {k : RenV} {e : Eng} {i : Nat} (h : S w0 w (rrX b bs k e i :: L)) : w.cell? ⟨blkOf bs i, 6, none⟩ = some (k.v i).rv ∧ w.frozen? ⟨blkOf bs i, 6, none⟩ = false ∧ w.cell? ⟨b, 14, none⟩ = some (.map (some k.wb)) ∧ MapAt encI (fun _ => True) w k.wb (ienc e.wr) := by
 have h1 : S w0 w (renX b bs k e i :: blk (blkOf bs i) 103 (rtxF (k.v i) (e.tx i)) :: pur ((e.tx i).writes = ownMap (k.v i).own) :: sl 101 2 (k.v i).ov (k.v i).own.length (pcells (k.v i).own) :: sl 90 1 (k.v i).av (e.tx i).aft.length (ptrs bs (e.tx i).aft) :: sl 90 1 (k.v i).fv (e.tx i).fore.length (ptrs bs (e.tx i).fore) :: L) :=
  h.conv (by simp only [all, rrX]; ac_rfl)
 obtain ⟨_, h2⟩ := h1.sep_elim.pur_elim
 obtain ⟨_, h3, _, h5, _⟩ := h2.renG_see
 exact ⟨h.rr_see.1, h.rr_see.2, (h3 2 _ rfl).1, h5⟩
theorem rr_step {w0 w : World} {b : Nat} {bs : List Nat} {k : RenV} {e : Eng} {i vb : Nat} {va vv key : Int} {L : List HProp} (hs : S w0 w (blk vb 107 [.int .i64 va, .int .i64 vv] :: renO b bs k e :: L)) (hi : i < e.txs.length) :
  ∃ ar cr ln xs X wb, ln = (e.tx i).reads.length ∧ ln ≤ cr ∧ cr ≤ maxLen ∧ S w0 w (sl 129 4 (.slice ar ln cr) ln xs :: X :: L) ∧
   (∀ W M', S w0 W (X :: M') → (W.cell? ⟨blkOf bs i, 6, none⟩ = some (.slice ar ln cr) ∧ W.frozen? ⟨blkOf bs i, 6, none⟩ = false) ∧ W.cell? ⟨b, 14, none⟩ = some (.map (some wb)) ∧ (Instr.lookup 53 (.map (some wb)) (.int .i64 va) false).run Tryz.prog W = .ok (.int .i64 ((mget e.wr va).getD 0)) W ∧ W.cell? ⟨vb, 0, none⟩ = some (.int .i64 va)) ∧
   (∀ W v' L', S w0 W (sl 129 4 v' (ln + 1) (xs ++ opc ⟨(i : Int) + 1, key, false, (mget e.wr va).getD 0⟩) :: X :: L') → ∃ k', (k'.txv = k.txv ∧ ∀ m, (k'.v m).own = (k.v m).own) ∧ S w0 (W.setCell ⟨blkOf bs i, 6, none⟩ v') (blk vb 107 [.int .i64 va, .int .i64 vv] :: renO b bs k' (e.upd i fun x => { x with reads := x.reads ++ [(key, (mget e.wr va).getD 0)] }) :: L')) := by
 have h2 := (hs.swap.rr_open hi)
 obtain ⟨ar, cr, hov, hl1, hl2, _⟩ := h2.sl_val
 rw [hov] at h2
 refine ⟨ar, cr, _, _, sep (rrX b bs k e i) (blk vb 107 [.int .i64 va, .int .i64 vv]), k.wb, rfl, hl1, hl2, h2.conv (by simp only [all]; ac_rfl), fun W M' h => ?_, fun W v' L' h => ?_⟩
 ·obtain ⟨g1, g2, g3, g4⟩ := rrX_see h.sep_elim
  exact ⟨⟨by rw [g1, hov], g2⟩, g3, Tryz.look1 g4 va, h.sep_elim.tail.blk_cell 0 rfl⟩
 ·have h3 : S w0 W (sl 129 4 v' ((e.tx i).reads.length + 1) (fcells opc (readOps ((i : Int) + 1) (e.tx i).reads) ++ opc ⟨(i : Int) + 1, (key, (mget e.wr va).getD 0).1, false, (key, (mget e.wr va).getD 0).2⟩) :: rrX b bs k e i :: blk vb 107 [.int .i64 va, .int .i64 vv] :: L') := h.conv (by simp only [all]; ac_rfl)
  exact ⟨k.set i { k.v i with rv := v' }, ⟨rfl, fun m => RenV.set_own k i (by rfl) m⟩, (h3.rr_close hi).swap⟩
theorem readOut_eq {e : Eng} {K : List Kep} (hS : Same e.V e.last K) {key : Int} (hk : keyOk key) (at_ : Int) : readOut K key at_ = (((readV (e.row key) at_).map (·.1)).getD 0, ((readV (e.row key) at_).map (·.2)).getD 0, if (readV (e.row key) at_).isSome then 0 else 8) := by
 obtain ⟨n, rfl⟩ : ∃ n : Nat, key = n := ⟨key.toNat, by have := hk.1; omega⟩
 have hn : n < 10 := by have := hk.2; omega
 unfold readOut
 rw [if_pos (by omega)]
 have h1 := hS.read n hn at_
 have h2 : e.row (n : Int) = proj K n := by unfold Eng.row; rw [Int.toNat_natCast, hS.key n hn]; rfl
 rw [h2, ← h1]
 cases rread K n at_ <;> rfl
section
variable {w w0 : World} {b : Nat} {bs : List Nat} {e : Eng} {n key : Int} {L : List HProp} {M : Nat} {k : RenV} {K : List Kep} {Qs : List (List Int)} {i : Nat}
set_option maxRecDepth 40000 in
theorem rread_bad (hp : Same e.V e.last K ∧ SameT e.t Qs ∧ Room M [] k e) (hs : S w0 w (refP 47 109 b K e.last :: rtabP 3 b 2 Qs :: renO b bs k e :: L)) {x : Int} (h1 : e.err n true = x) (h0 : x ≠ 0) :
  Calls Tryz.prog 18 #[.pointer (some ⟨b, 0, none⟩), .int .i64 n, .int .i64 key] w fun r w' => r = .returned (.tuple #[.int .i64 (e.read n key).2.1, .int .i64 (e.read n key).2.2]) ∧ S w0 w' (renP M [] b bs (e.read n key).1 :: L) := by
 have hf : e.read n key = (e, 0, x) := by unfold Eng.read; rw [if_pos (by rw [h1]; exact h0), h1]
 have HF := hid hf; have HC := hid (rof_bad w0 w b bs k e n true _ hs.ren_o h1 h0); have HS := hid (S.ren_shut hp hs)
 have hb : (x != 0) = true := by simpa using h0
 clear hs h1 h0 hf hp
 go_enter Tryz.func18, Tryz.ntmps18
 go_wp2_with fail
 with_reducible refine HC.out.mono ?_
 rintro r w' ⟨rfl, rfl⟩
 go_wp2_with fail
 go_ret2
 exact ⟨by rw [HF.out]; rfl, by rw [HF.out]; exact HS.out⟩
set_option maxRecDepth 40000 in
theorem rread_own (hp : Same e.V e.last K ∧ SameT e.t Qs ∧ Room M [] k e) (hs : S w0 w (refP 47 109 b K e.last :: rtabP 3 b 2 Qs :: renO b bs k e :: L)) (hi : i < e.txs.length) (h1 : e.err ((i : Int) + 1) true = 0) {v : Int} (hw : mget (e.tx i).writes key = some v) :
  Calls Tryz.prog 18 #[.pointer (some ⟨b, 0, none⟩), .int .i64 ((i : Int) + 1), .int .i64 key] w fun r w' => r = .returned (.tuple #[.int .i64 (e.read ((i : Int) + 1) key).2.1, .int .i64 (e.read ((i : Int) + 1) key).2.2]) ∧ S w0 w' (renP M [] b bs (e.read ((i : Int) + 1) key).1 :: L) := by
 have hi2 : ((i : Int) + 1).toNat - 1 = i := by omega
 have hf : e.read ((i : Int) + 1) key = (e, v, 0) := by unfold Eng.read; rw [if_neg (by rw [h1]; decide)]; simp only [hi2, hw]
 have hown := rown_any w _ i bs _ _ key (hs.ren_o.ren_txc hi).2
 unfold Tx.wrote at hown
 rw [hw] at hown
 simp only [Option.getD_some, Option.isSome_some] at hown
 have HF := hid hf; have HC := hid (rof_ok w0 w b bs k e i true _ hs.ren_o h1); have HS := hid (S.ren_shut hp hs); have HO := hid hown
 clear hs h1 hf hp hi2 hown hw
 go_enter Tryz.func18, Tryz.ntmps18
 go_wp2_with fail
 with_reducible refine HC.out.mono ?_
 rintro r w' ⟨rfl, rfl⟩
 go_wp2_with fail
 with_reducible refine HO.out.mono ?_
 rintro r w' ⟨rfl, rfl⟩
 go_wp2_with fail
 go_ret2
 exact ⟨by rw [HF.out]; rfl, by rw [HF.out]; exact HS.out⟩
set_option maxRecDepth 40000 in
theorem rread_no (hp : Same e.V e.last K ∧ SameT e.t Qs ∧ Room M [] k e) (hs : S w0 w (refP 47 109 b K e.last :: rtabP 3 b 2 Qs :: renO b bs k e :: L)) (hi : i < e.txs.length) (h1 : e.err ((i : Int) + 1) true = 0) (hw : mget (e.tx i).writes key = none) (hk : ¬ keyOk key) :
  Calls Tryz.prog 18 #[.pointer (some ⟨b, 0, none⟩), .int .i64 ((i : Int) + 1), .int .i64 key] w fun r w' => r = .returned (.tuple #[.int .i64 (e.read ((i : Int) + 1) key).2.1, .int .i64 (e.read ((i : Int) + 1) key).2.2]) ∧ S w0 w' (renP M [] b bs (e.read ((i : Int) + 1) key).1 :: L) := by
 have hi2 : ((i : Int) + 1).toNat - 1 = i := by omega
 have hf : e.read ((i : Int) + 1) key = (e, 0, 2) := by
  unfold Eng.read
  rw [if_neg (by rw [h1]; decide)]
  simp only [hi2, hw]
  rw [if_pos hk]
 have hown := rown_any w _ i bs _ _ key (hs.ren_o.ren_txc hi).2
 unfold Tx.wrote at hown
 rw [hw] at hown
 simp only [Option.getD_none, Option.isSome_none] at hown
 have hb : decide ((0 : Int) ≤ key ∧ key ≤ 9) = false := decide_eq_false (by unfold keyOk at hk; omega)
 have HF := hid hf; have HC := hid (rof_ok w0 w b bs k e i true _ hs.ren_o h1); have HS := hid (S.ren_shut hp hs); have HO := hid hown
 have HI := hid (show Calls Tryz.prog 44 #[.int .i64 key, .int .i64 0, .int .i64 9] w fun r w' => r = .returned (.bool false) ∧ w = w' by have := in_any key 0 9 w; rw [hb] at this; exact this)
 clear hs h1 hf hp hi2 hown hw hk hb
 go_enter Tryz.func18, Tryz.ntmps18
 go_wp2_with fail
 with_reducible refine HC.out.mono ?_
 rintro r w' ⟨rfl, rfl⟩
 go_wp2_with fail
 with_reducible refine HO.out.mono ?_
 rintro r w' ⟨rfl, rfl⟩
 go_wp2_with (go_at_call 44; with_reducible refine HI.out.mono ?_; rintro r w' ⟨rfl, rfl⟩)
 go_ret2
 exact ⟨by rw [HF.out]; rfl, by rw [HF.out]; exact HS.out⟩
end
set_option linter.unusedSimpArgs false in
set_option maxRecDepth 100000 in
set_option maxHeartbeats 16000000 in
theorem rreadE_any (w0 w : World) (b : Nat) (bs : List Nat) (e : Eng) (n key : Int) (L : List HProp) (N M : Nat) (hok : OkT N e []) (hti : Times e) (hN : N ≤ 90000000) (hM : M ≤ 1000000) (hs : S w0 w (renP M [] b bs e :: L)) :
  Calls Tryz.prog 18 #[.pointer (some ⟨b, 0, none⟩), .int .i64 n, .int .i64 key] w fun r w' => r = .returned (.tuple #[.int .i64 (e.read n key).2.1, .int .i64 (e.read n key).2.2]) ∧ S w0 w' (renP M [] b bs (e.read n key).1 :: L) := by
 obtain ⟨k, K, Qs, hp, hs⟩ := hs.ren_open
 rcases e.err_cases n true with ⟨h1, h2⟩ | ⟨i, rfl, hi, ⟨h1, h2, h3⟩ | ⟨h1, h2⟩⟩
 ·exact rread_bad hp hs h1 (by decide)
 ·exact rread_bad hp hs h1 (by decide)
 cases hw : mget (e.tx i).writes key with
 | some v => exact rread_own hp hs hi h1 hw
 | none =>
 by_cases hk : keyOk key
 case neg => exact rread_no hp hs hi h1 hw hk
 obtain ⟨hS, hST, hRm⟩ := hp
 have hi2 : ((i : Int) + 1).toNat - 1 = i := by omega
 have hO := hs.ren_o
 have hc := rof_ok w0 w b bs k e i true _ hO h1
 have hx := (hO.ren_txc hi).2
 have c0 := hx.level
 have c3 := hx.start
 have cl : w.cell? ⟨b, 1, none⟩ = some (.int .i64 e.last) := by
  obtain ⟨v, h⟩ := hs.ref_elim
  exact h.c0_cell 1 rfl
 have hown := rown_any w _ i bs _ _ key hx
 unfold Tx.wrote at hown
 rw [hw] at hown
 simp only [Option.getD_none, Option.isSome_none] at hown
 have hb : decide ((0 : Int) ≤ key ∧ key ≤ 9) = true := decide_eq_true (by unfold keyOk at hk; omega)
 have hin : Calls Tryz.prog 44 #[.int .i64 key, .int .i64 0, .int .i64 9] w fun r w' => r = .returned (.bool true) ∧ w = w' := by have := in_any key 0 9 w; rw [hb] at this; exact this
 have hcall := rread2 w0 w b K e.last key (e.asOf i) _ hs
 rw [readOut_eq hS hk] at hcall
 obtain ⟨r, hr⟩ : ∃ r, readV (e.row key) (e.asOf i) = r := ⟨_, rfl⟩
 rw [hr] at hcall
 obtain ⟨va, hva⟩ : ∃ va, (r.map (·.1)).getD 0 = va := ⟨_, rfl⟩
 obtain ⟨vv, hvv⟩ : ∃ vv, (r.map (·.2)).getD 0 = vv := ⟨_, rfl⟩
 obtain ⟨E, hEE⟩ : ∃ E : Int, (if r.isSome then 0 else 8) = E := ⟨_, rfl⟩
 obtain ⟨fr, hfr⟩ : ∃ fr, (mget e.wr va).getD 0 = fr := ⟨_, rfl⟩
 rw [hva, hvv, hEE] at hcall
 obtain ⟨e1, he1⟩ : ∃ e1, (e.upd i fun x => { x with reads := x.reads ++ [(key, fr)] }) = e1 := ⟨_, rfl⟩
 have hf : e.read ((i : Int) + 1) key = if (e.tx i).level = 2 then (if (e1.sees i key).2 = true then ((e1.sees i key).1, vv, E) else ((e1.sees i key).1.goes i 13, 0, 13)) else (e1, vv, E) := by
  unfold Eng.read
  rw [if_neg (by rw [h1]; decide)]
  simp only [hi2, hw, hr, hva, hvv, hfr, he1]
  rw [if_neg (by simpa using hk)]
  rw [← hEE]
 have hok1 : OkT (N + 1) e1 [] := by rw [← he1]; exact hok.reads_in hi _
 have hti1 : Times e1 := by rw [← he1]; exact hti.upd rfl rfl id
 have hlen1 : e1.txs.length = e.txs.length := by rw [← he1]; exact Eng.upd_len ..
 have hst1 : (e1.tx i).state = 0 := by rw [← he1]; exact (Eng.upd_keep (·.state) (fun x => { x with reads := x.reads ++ [(key, fr)] }) (fun _ => rfl) i).trans (h2 rfl)
 have hlv1 : (e1.tx i).level = (e.tx i).level := by rw [← he1]; exact Eng.upd_keep (·.level) (fun x => { x with reads := x.reads ++ [(key, fr)] }) (fun _ => rfl) i
 have hi1 : i < e1.txs.length := by omega
 have hal1 : (e1.tx i).alive = true := by simp [Tx.alive, hst1]
 have hrn : (e.tx i).reads.length + 1 ≤ 1000000000000 := by have := hok.reads _ (Eng.tx_mem hi); omega
 have hsm1 : ∀ k2 : RenV, (∀ m, (k2.v m).own = (k.v m).own) → Same e1.V e1.last K ∧ SameT e1.t Qs ∧ Room M [] k2 e1 := fun k2 h => by
  rw [← he1]
  exact ⟨hS, hST, (Room.upd (f := fun x => { x with reads := x.reads ++ [(key, fr)] }) hRm id).own h⟩
 have hlast1 : e1.last = e.last := by rw [← he1]; rfl
 have hat : e.asOf i = if (e.tx i).level = 0 then e.last else (e.tx i).start := rfl
 have hrr : ∀ W vb, S w0 W (refP 47 109 b K e.last :: rtabP 3 b 2 Qs :: renO b bs k e :: blk vb 107 [.int .i64 va, .int .i64 vv] :: L) →
   ∃ ar cr ln xs X wb, ln = (e.tx i).reads.length ∧ ln ≤ cr ∧ cr ≤ maxLen ∧ S w0 W (sl 129 4 (.slice ar ln cr) ln xs :: X :: refP 47 109 b K e.last :: rtabP 3 b 2 Qs :: L) ∧
   (∀ W M', S w0 W (X :: M') → (W.cell? ⟨blkOf bs i, 6, none⟩ = some (.slice ar ln cr) ∧ W.frozen? ⟨blkOf bs i, 6, none⟩ = false) ∧ W.cell? ⟨b, 14, none⟩ = some (.map (some wb)) ∧ (Instr.lookup 53 (.map (some wb)) (.int .i64 va) false).run Tryz.prog W = .ok (.int .i64 fr) W ∧ W.cell? ⟨vb, 0, none⟩ = some (.int .i64 va)) ∧
   (∀ W v' L', S w0 W (sl 129 4 v' (ln + 1) (xs ++ opc ⟨(i : Int) + 1, key, false, fr⟩) :: X :: L') → ∃ k', (k'.txv = k.txv ∧ ∀ m, (k'.v m).own = (k.v m).own) ∧ S w0 (W.setCell ⟨blkOf bs i, 6, none⟩ v') (blk vb 107 [.int .i64 va, .int .i64 vv] :: renO b bs k' (e.upd i fun x => { x with reads := x.reads ++ [(key, fr)] }) :: L')) := fun W vb h => by
  rw [← hfr]
  exact rr_step (h.conv (M := blk vb 107 [.int .i64 va, .int .i64 vv] :: renO b bs k e :: refP 47 109 b K e.last :: rtabP 3 b 2 Qs :: L) (by simp only [all]; ac_rfl)) hi
 have HC := hid hc; have HOWN := hid hown; have HIN := hid hin; have HRC := hid hcall; have HFF := hid hf; have HOK1 := hid hok1; have HTI1 := hid hti1; have HLEN1 := hid hlen1; have HLV1 := hid hlv1; have HI1 := hid hi1; have HAL1 := hid hal1; have HLM0 := hid hrn; have HSM1 := hid hsm1; have HL1 := hid hlast1; have HAT := hid hat; have HRR := hid hrr; have HKEY := hid hk; have HE1 := hid he1
 clear hs hO h1 h2 hc hx hown hin hcall hf hok1 hti1 hlen1 hst1 hlv1 hi1 hal1 hrn hsm1 hlast1 hat hrr hk he1 hb hw hok hti hS hST hRm hr hva hvv hEE hfr hi2
 go_enter Tryz.func18, Tryz.ntmps18
 go_wp2_with fail
 with_reducible refine HC.out.mono ?_
 rintro r1 w1 ⟨rfl, rfl⟩
 go_wp2_with fail
 with_reducible refine HOWN.out.mono ?_
 rintro r1 w1 ⟨rfl, rfl⟩
 by_cases hl0 : (e.tx i).level = 0
 ·rw [HAT.out, if_pos hl0] at HRC
  have hb0 : ((e.tx i).level == 0) = true := by simpa using hl0
  have hb2 : ((e.tx i).level == 2) = false := by simp [hl0]
  have hff : e.read ((i : Int) + 1) key = (e1, vv, E) := by rw [HFF.out, if_neg (by omega)]
  have HF2 := hid hff
  clear hl0 HAT hff HFF
  go_upto_region 13 with (first | (go_at_call 44; with_reducible refine HIN.out.mono ?_; rintro r w' ⟨rfl, rfl⟩) | (go_at_call 50; with_reducible refine HRC.out.mono ?_; rintro r1 wv ⟨rfl, hs2⟩; have H2 := hid hs2; clear hs2))
  clear HIN HC HOWN c0 c3 cl
  have hs3 := (H2.out.alloc #[.int .i64 va, .int .i64 vv] 107).conv (M := refP 47 109 b K e.last :: rtabP 3 b 2 Qs :: renO b bs k e :: blk wv.heap.size 107 [.int .i64 va, .int .i64 vv] :: L) (by simp only [all]; ac_rfl)
  obtain ⟨ar, cr, ln, xs, X, wb, hln, hlc, hcr, hs5, hx, hcl⟩ := HRR.out _ _ hs3
  have hlm : ln + 1 ≤ 1000000000000 := by have := HLM0.out; omega
  unfold maxLen at hcr
  have HS0 := hid hs5; have HQX := hid hx; have HCL := hid hcl; have HLM := hid hlm
  clear hs3 hs5 hx hcl H2 HRC HRR hlm hln HLM0
  obtain ⟨i0, hi0, hz0, hz1, hz2⟩ := info_parts Tryz.info129
  go_cut [] (fun wx => ∃ k2 : RenV, Hid (k2.txv = k.txv ∧ ∀ m, (k2.v m).own = (k.v m).own) ∧ S w0 wx (refP 47 109 b K e1.last :: rtabP 3 b 2 Qs :: renO b bs k2 e1 :: blk wv.heap.size 107 [.int .i64 va, .int .i64 vv] :: L))
  case first =>
   have HLX := HL1.out
   refine region_U (S := fun w' => w'.cell? ⟨blkOf bs i, 6, none⟩ = some (.slice ar ln cr) ∧ w'.cell? ⟨b, 14, none⟩ = some (.map (some wb)) ∧ (Instr.lookup 53 (.map (some wb)) (.int .i64 va) false).run Tryz.prog w' = .ok (.int .i64 fr) w' ∧ w'.cell? ⟨wv.heap.size, 0, none⟩ = some (.int .i64 va)) (u := 19) (by kernel_rfl) (have q := HQX.out _ _ (HS0.out.drew.nth 1 rfl); ⟨q.1.1, q.2.1, q.2.2.1, q.2.2.2⟩) (fun hHeld => ?_)
   refine anyU_take (i := 0) (v := ?_) rfl (by kernel_rfl) (fun _ _ _ h => h) (Or.inl ⟨by rfl, ?_⟩) hHeld ?_
   rotate_left
   ·(intro w hSw; (try dsimp only at hSw); go_simp) <;> with_reducible rfl
   try simp only [putU]
   refine anyU_take (i := 1) (v := ?_) rfl (by kernel_rfl) (fun _ _ _ h => h) (Or.inl ⟨by rfl, ?_⟩) hHeld ?_
   rotate_left
   ·(intro w hSw; (try dsimp only at hSw); go_simp) <;> with_reducible rfl
   try simp only [putU]
   refine anyU_take (i := 2) (v := ?_) rfl (by kernel_rfl) (fun _ _ _ h => h) (Or.inl ⟨by rfl, ?_⟩) hHeld ?_
   rotate_left
   ·(intro w hSw; (try dsimp only at hSw); go_simp) <;> with_reducible rfl
   try simp only [putU]
   refine anyU_take (i := 3) (v := ?_) rfl (by kernel_rfl) (fun _ _ _ h => h) (Or.inl ⟨by rfl, ?_⟩) hHeld ?_
   rotate_left
   ·(intro w hSw; (try dsimp only at hSw); go_simp) <;> with_reducible rfl
   try simp only [putU]
   refine anyU_take (i := 4) (v := ?_) rfl (by kernel_rfl) (fun _ _ _ h => h) (Or.inl ⟨by rfl, ?_⟩) hHeld ?_
   rotate_left
   ·(intro w hSw; (try dsimp only at hSw); go_simp) <;> with_reducible rfl
   try simp only [putU]
   refine anyU_take (i := 5) (v := ?_) rfl (by kernel_rfl) (fun _ _ _ h => h) (Or.inl ⟨by rfl, ?_⟩) hHeld ?_
   rotate_left
   ·(intro w hSw; (try dsimp only at hSw); go_simp) <;> with_reducible rfl
   try simp only [putU]
   refine anyU_take (i := 6) (v := ?_) rfl (by kernel_rfl) (fun _ _ _ h => h) (Or.inl ⟨by rfl, ?_⟩) hHeld ?_
   rotate_left
   ·(intro w hSw; (try dsimp only at hSw); go_simp) <;> with_reducible rfl
   try simp only [putU]
   refine anyU_take (i := 7) (v := ?_) rfl (by kernel_rfl) (fun _ _ _ h => h) (Or.inl ⟨by rfl, ?_⟩) hHeld ?_
   rotate_left
   ·(intro w hSw; (try dsimp only at hSw); go_simp) <;> with_reducible rfl
   try simp only [putU]
   refine anyU_take (i := 8) (v := ?_) rfl (by kernel_rfl) (fun _ _ _ h => h) (Or.inl ⟨by rfl, ?_⟩) hHeld ?_
   rotate_left
   ·(intro w hSw; (try dsimp only at hSw); go_simp) <;> with_reducible rfl
   try simp only [putU]
   refine anyU_take (i := 9) (v := ?_) rfl (by kernel_rfl) (fun _ _ _ h => h) (Or.inl ⟨by rfl, ?_⟩) hHeld ?_
   rotate_left
   ·(intro w hSw; (try dsimp only at hSw); go_simp) <;> with_reducible rfl
   try simp only [putU]
   refine anyU_take (i := 10) (v := ?_) rfl (by kernel_rfl) (fun _ _ _ h => h) (Or.inl ⟨by rfl, ?_⟩) hHeld ?_
   rotate_left
   ·(intro w hSw; (try dsimp only at hSw); go_simp) <;> with_reducible rfl
   try simp only [putU]
   refine anyU_take (i := 11) (v := ?_) rfl (by kernel_rfl) (fun _ _ _ h => h) (Or.inl ⟨by rfl, ?_⟩) hHeld ?_
   rotate_left
   ·(intro w hSw; (try dsimp only at hSw); go_simp) <;> with_reducible rfl
   try simp only [putU]
   refine anyU_take (i := 12) (v := ?_) rfl (by kernel_rfl) (fun _ _ _ h => h) (Or.inl ⟨by rfl, ?_⟩) hHeld ?_
   rotate_left
   ·(intro w hSw; (try dsimp only at hSw); go_simp) <;> with_reducible rfl
   try simp only [putU]
   refine anyU_take (i := 13) (v := ?_) rfl (by kernel_rfl) (fun _ _ _ h => h) (Or.inl ⟨by rfl, ?_⟩) hHeld ?_
   rotate_left
   ·(intro w hSw; (try dsimp only at hSw); go_simp) <;> with_reducible rfl
   try simp only [putU]
   refine anyU_take (i := 14) (v := ?_) rfl (by kernel_rfl) (fun _ _ _ h => h) (Or.inl ⟨by rfl, ?_⟩) hHeld ?_
   rotate_left
   ·(intro w hSw; (try dsimp only at hSw); go_simp) <;> with_reducible rfl
   try simp only [putU]
   have HS := hid HS0.out.drew
   clear hHeld
   refine anyU_world (fun w => Hid (S w0 w _)) HS (fun w1 HS => ?_)
   clear HS0
   refine anyU_next (rs := [15]) (by kernel_rfl) (by simp) ?_
   refine NextU.cons rfl (fun K hK => ?_) ?_
   ·go_simp
    replace HS := hid (HS.out.alloc_slU (e := 129) (size := 4) (opc ⟨(i : Int) + 1, key, false, fr⟩) 1 rfl (by unfold maxLen; omega))
    generalize w1.heap.size = b15 at HS ⊢
    refine act_any (fun w => Hid (S w0 w _)) HS (fun w2 HS => ?_)
    refine hK.out _ _ (fun _ => (have q := HQX.out _ _ (HS.out.nth 2 rfl); ⟨q.1.1, q.2.1, q.2.2.1, q.2.2.2⟩)) ?_
    clear hK K
    refine anyU_next (rs := [16]) (by kernel_rfl) (by simp) ?_
    refine NextU.cons rfl (fun K hK => ?_) ?_
    ·refine step_appU rfl (.tmp 71) (.tmp 82) 54 rfl 129 i0 _ 4 32 Tryz.underlying54 hi0 hz0 hz1 hz2 rfl (by decide) HS.out 1 (by rfl) (by rfl) _ 1 1 (opc ⟨(i : Int) + 1, key, false, fr⟩) (by rfl) rfl (HS.out.news_slK 0 (by rfl)) (one_opR _) HLM.out (by decide) ?_
     intro v16 w3 hs
     replace HS := hid hs
     clear hs
     obtain ⟨p16, c16, rfl, _, _, _⟩ := HS.out.sl_val
     refine hK.out _ _ (fun _ => (have q := HQX.out _ _ (HS.out.nth 2 rfl); ⟨q.1.1, q.2.1, q.2.2.1, q.2.2.2⟩)) ?_
     clear hK K
     try simp only [putU]
     refine anyU_pure (i := 17) (v := ?_) rfl (by kernel_rfl) (fun _ _ _ h => h) (Or.inl ⟨by rfl, ?_⟩) (fun _ => (have q := HQX.out _ _ (HS.out.nth 2 rfl); ⟨q.1.1, q.2.1, q.2.2.1, q.2.2.2⟩)) ?_
     rotate_left
     ·(intro w _; go_simp) <;> with_reducible rfl
     try simp only [putU]
     refine anyU_take (i := 18) (v := ?_) rfl (by kernel_rfl) (fun _ _ _ h => h) (Or.inl ⟨by rfl, ?_⟩) (have q := HQX.out _ _ (HS.out.nth 2 rfl); ⟨q.1.1, q.2.1, q.2.2.1, q.2.2.2⟩) ?_
     rotate_left
     ·(intro w hSw; (try dsimp only at hSw); go_simp) <;> with_reducible rfl
     try simp only [putU]
     refine anyU_next (rs := [19]) (by kernel_rfl) (by simp) ?_
     refine NextU.cons rfl (fun K hK => ?_) ?_
     ·have q1 := (HQX.out _ _ (HS.out.nth 2 rfl)).1.1
      have q2 := (HQX.out _ _ (HS.out.nth 2 rfl)).1.2
      go_simp
      refine hK.out _ _ (fun h => Bool.noConfusion (show true = false from h)) ?_
      clear hK K q1 q2
      refine anyU_done (by kernel_rfl) ?_ _
      have HZ := HS.out
      simp only [List.eraseIdx_cons_succ, List.eraseIdx_cons_zero] at HZ
      obtain ⟨k2, g1, g3⟩ := HCL.out _ _ _ (HZ.conv (M := sl 129 4 (.slice p16 (ln + 1) c16) (ln + 1) (xs ++ (opc ⟨(i : Int) + 1, key, false, fr⟩)) :: X :: sl 129 4 (.slice (some ⟨b15, 0, none⟩) 1 1) 1 (opc ⟨(i : Int) + 1, key, false, fr⟩) :: refP 47 109 b K e.last :: rtabP 3 b 2 Qs :: L) (by simp only [all]; ac_rfl))
      have g4 := hid ((g3.conv (M := sl 129 4 (.slice (some ⟨b15, 0, none⟩) 1 1) 1 (opc ⟨(i : Int) + 1, key, false, fr⟩) :: refP 47 109 b K e.last :: rtabP 3 b 2 Qs :: renO b bs k2 (e.upd i fun x => { x with reads := x.reads ++ [(key, fr)] }) :: blk wv.heap.size 107 [.int .i64 va, .int .i64 vv] :: L) (by simp only [all]; ac_rfl)).tail)
      clear HZ g3 HS
      go_wp2_with fail
      go_meet
      exact ⟨k2, hid g1, by rw [← HE1.out]; exact g4.out⟩
     exact NextU.nil
    exact NextU.nil
   exact NextU.nil
  case rest =>
  rename World => w4
  obtain ⟨k2, hk2, hs6⟩ := hcut
  have H6 := hid hs6
  have q9 := (hs6.tail.tail.tail).blk_cell 1 rfl
  have c0 := (hs6.tail.tail.ren_txc HI1.out).2.level
  rw [HLV1.out] at c0
  clear hs6 HQX HCL HS0 HLM hi0 hz0 hz1 hz2
  go_wp2_with fail
  go_ret2
  exact ⟨by rw [HF2.out]; rfl, by rw [HF2.out]; exact (S.ren_shut (HSM1.out k2 hk2.out.2) H6.out).swap.tail⟩
 ·rw [HAT.out, if_neg hl0] at HRC
  have hb0 : ((e.tx i).level == 0) = false := by simpa using hl0
  clear hl0 HAT
  go_upto_region 13 with (first | (go_at_call 44; with_reducible refine HIN.out.mono ?_; rintro r w' ⟨rfl, rfl⟩) | (go_at_call 50; with_reducible refine HRC.out.mono ?_; rintro r1 wv ⟨rfl, hs2⟩; have H2 := hid hs2; clear hs2))
  clear HIN HC HOWN c0 c3 cl
  have hs3 := (H2.out.alloc #[.int .i64 va, .int .i64 vv] 107).conv (M := refP 47 109 b K e.last :: rtabP 3 b 2 Qs :: renO b bs k e :: blk wv.heap.size 107 [.int .i64 va, .int .i64 vv] :: L) (by simp only [all]; ac_rfl)
  obtain ⟨ar, cr, ln, xs, X, wb, hln, hlc, hcr, hs5, hx, hcl⟩ := HRR.out _ _ hs3
  have hlm : ln + 1 ≤ 1000000000000 := by have := HLM0.out; omega
  unfold maxLen at hcr
  have HS0 := hid hs5; have HQX := hid hx; have HCL := hid hcl; have HLM := hid hlm
  clear hs3 hs5 hx hcl H2 HRC HRR hlm hln HLM0
  obtain ⟨i0, hi0, hz0, hz1, hz2⟩ := info_parts Tryz.info129
  go_cut [] (fun wx => ∃ k2 : RenV, Hid (k2.txv = k.txv ∧ ∀ m, (k2.v m).own = (k.v m).own) ∧ S w0 wx (refP 47 109 b K e1.last :: rtabP 3 b 2 Qs :: renO b bs k2 e1 :: blk wv.heap.size 107 [.int .i64 va, .int .i64 vv] :: L))
  case first =>
   have HLX := HL1.out
   refine region_U (S := fun w' => w'.cell? ⟨blkOf bs i, 6, none⟩ = some (.slice ar ln cr) ∧ w'.cell? ⟨b, 14, none⟩ = some (.map (some wb)) ∧ (Instr.lookup 53 (.map (some wb)) (.int .i64 va) false).run Tryz.prog w' = .ok (.int .i64 fr) w' ∧ w'.cell? ⟨wv.heap.size, 0, none⟩ = some (.int .i64 va)) (u := 19) (by kernel_rfl) (have q := HQX.out _ _ (HS0.out.drew.nth 1 rfl); ⟨q.1.1, q.2.1, q.2.2.1, q.2.2.2⟩) (fun hHeld => ?_)
   refine anyU_take (i := 0) (v := ?_) rfl (by kernel_rfl) (fun _ _ _ h => h) (Or.inl ⟨by rfl, ?_⟩) hHeld ?_
   rotate_left
   ·(intro w hSw; (try dsimp only at hSw); go_simp) <;> with_reducible rfl
   try simp only [putU]
   refine anyU_take (i := 1) (v := ?_) rfl (by kernel_rfl) (fun _ _ _ h => h) (Or.inl ⟨by rfl, ?_⟩) hHeld ?_
   rotate_left
   ·(intro w hSw; (try dsimp only at hSw); go_simp) <;> with_reducible rfl
   try simp only [putU]
   refine anyU_take (i := 2) (v := ?_) rfl (by kernel_rfl) (fun _ _ _ h => h) (Or.inl ⟨by rfl, ?_⟩) hHeld ?_
   rotate_left
   ·(intro w hSw; (try dsimp only at hSw); go_simp) <;> with_reducible rfl
   try simp only [putU]
   refine anyU_take (i := 3) (v := ?_) rfl (by kernel_rfl) (fun _ _ _ h => h) (Or.inl ⟨by rfl, ?_⟩) hHeld ?_
   rotate_left
   ·(intro w hSw; (try dsimp only at hSw); go_simp) <;> with_reducible rfl
   try simp only [putU]
   refine anyU_take (i := 4) (v := ?_) rfl (by kernel_rfl) (fun _ _ _ h => h) (Or.inl ⟨by rfl, ?_⟩) hHeld ?_
   rotate_left
   ·(intro w hSw; (try dsimp only at hSw); go_simp) <;> with_reducible rfl
   try simp only [putU]
   refine anyU_take (i := 5) (v := ?_) rfl (by kernel_rfl) (fun _ _ _ h => h) (Or.inl ⟨by rfl, ?_⟩) hHeld ?_
   rotate_left
   ·(intro w hSw; (try dsimp only at hSw); go_simp) <;> with_reducible rfl
   try simp only [putU]
   refine anyU_take (i := 6) (v := ?_) rfl (by kernel_rfl) (fun _ _ _ h => h) (Or.inl ⟨by rfl, ?_⟩) hHeld ?_
   rotate_left
   ·(intro w hSw; (try dsimp only at hSw); go_simp) <;> with_reducible rfl
   try simp only [putU]
   refine anyU_take (i := 7) (v := ?_) rfl (by kernel_rfl) (fun _ _ _ h => h) (Or.inl ⟨by rfl, ?_⟩) hHeld ?_
   rotate_left
   ·(intro w hSw; (try dsimp only at hSw); go_simp) <;> with_reducible rfl
   try simp only [putU]
   refine anyU_take (i := 8) (v := ?_) rfl (by kernel_rfl) (fun _ _ _ h => h) (Or.inl ⟨by rfl, ?_⟩) hHeld ?_
   rotate_left
   ·(intro w hSw; (try dsimp only at hSw); go_simp) <;> with_reducible rfl
   try simp only [putU]
   refine anyU_take (i := 9) (v := ?_) rfl (by kernel_rfl) (fun _ _ _ h => h) (Or.inl ⟨by rfl, ?_⟩) hHeld ?_
   rotate_left
   ·(intro w hSw; (try dsimp only at hSw); go_simp) <;> with_reducible rfl
   try simp only [putU]
   refine anyU_take (i := 10) (v := ?_) rfl (by kernel_rfl) (fun _ _ _ h => h) (Or.inl ⟨by rfl, ?_⟩) hHeld ?_
   rotate_left
   ·(intro w hSw; (try dsimp only at hSw); go_simp) <;> with_reducible rfl
   try simp only [putU]
   refine anyU_take (i := 11) (v := ?_) rfl (by kernel_rfl) (fun _ _ _ h => h) (Or.inl ⟨by rfl, ?_⟩) hHeld ?_
   rotate_left
   ·(intro w hSw; (try dsimp only at hSw); go_simp) <;> with_reducible rfl
   try simp only [putU]
   refine anyU_take (i := 12) (v := ?_) rfl (by kernel_rfl) (fun _ _ _ h => h) (Or.inl ⟨by rfl, ?_⟩) hHeld ?_
   rotate_left
   ·(intro w hSw; (try dsimp only at hSw); go_simp) <;> with_reducible rfl
   try simp only [putU]
   refine anyU_take (i := 13) (v := ?_) rfl (by kernel_rfl) (fun _ _ _ h => h) (Or.inl ⟨by rfl, ?_⟩) hHeld ?_
   rotate_left
   ·(intro w hSw; (try dsimp only at hSw); go_simp) <;> with_reducible rfl
   try simp only [putU]
   refine anyU_take (i := 14) (v := ?_) rfl (by kernel_rfl) (fun _ _ _ h => h) (Or.inl ⟨by rfl, ?_⟩) hHeld ?_
   rotate_left
   ·(intro w hSw; (try dsimp only at hSw); go_simp) <;> with_reducible rfl
   try simp only [putU]
   have HS := hid HS0.out.drew
   clear hHeld
   refine anyU_world (fun w => Hid (S w0 w _)) HS (fun w1 HS => ?_)
   clear HS0
   refine anyU_next (rs := [15]) (by kernel_rfl) (by simp) ?_
   refine NextU.cons rfl (fun K hK => ?_) ?_
   ·go_simp
    replace HS := hid (HS.out.alloc_slU (e := 129) (size := 4) (opc ⟨(i : Int) + 1, key, false, fr⟩) 1 rfl (by unfold maxLen; omega))
    generalize w1.heap.size = b15 at HS ⊢
    refine act_any (fun w => Hid (S w0 w _)) HS (fun w2 HS => ?_)
    refine hK.out _ _ (fun _ => (have q := HQX.out _ _ (HS.out.nth 2 rfl); ⟨q.1.1, q.2.1, q.2.2.1, q.2.2.2⟩)) ?_
    clear hK K
    refine anyU_next (rs := [16]) (by kernel_rfl) (by simp) ?_
    refine NextU.cons rfl (fun K hK => ?_) ?_
    ·refine step_appU rfl (.tmp 71) (.tmp 82) 54 rfl 129 i0 _ 4 32 Tryz.underlying54 hi0 hz0 hz1 hz2 rfl (by decide) HS.out 1 (by rfl) (by rfl) _ 1 1 (opc ⟨(i : Int) + 1, key, false, fr⟩) (by rfl) rfl (HS.out.news_slK 0 (by rfl)) (one_opR _) HLM.out (by decide) ?_
     intro v16 w3 hs
     replace HS := hid hs
     clear hs
     obtain ⟨p16, c16, rfl, _, _, _⟩ := HS.out.sl_val
     refine hK.out _ _ (fun _ => (have q := HQX.out _ _ (HS.out.nth 2 rfl); ⟨q.1.1, q.2.1, q.2.2.1, q.2.2.2⟩)) ?_
     clear hK K
     try simp only [putU]
     refine anyU_pure (i := 17) (v := ?_) rfl (by kernel_rfl) (fun _ _ _ h => h) (Or.inl ⟨by rfl, ?_⟩) (fun _ => (have q := HQX.out _ _ (HS.out.nth 2 rfl); ⟨q.1.1, q.2.1, q.2.2.1, q.2.2.2⟩)) ?_
     rotate_left
     ·(intro w _; go_simp) <;> with_reducible rfl
     try simp only [putU]
     refine anyU_take (i := 18) (v := ?_) rfl (by kernel_rfl) (fun _ _ _ h => h) (Or.inl ⟨by rfl, ?_⟩) (have q := HQX.out _ _ (HS.out.nth 2 rfl); ⟨q.1.1, q.2.1, q.2.2.1, q.2.2.2⟩) ?_
     rotate_left
     ·(intro w hSw; (try dsimp only at hSw); go_simp) <;> with_reducible rfl
     try simp only [putU]
     refine anyU_next (rs := [19]) (by kernel_rfl) (by simp) ?_
     refine NextU.cons rfl (fun K hK => ?_) ?_
     ·have q1 := (HQX.out _ _ (HS.out.nth 2 rfl)).1.1
      have q2 := (HQX.out _ _ (HS.out.nth 2 rfl)).1.2
      go_simp
      refine hK.out _ _ (fun h => Bool.noConfusion (show true = false from h)) ?_
      clear hK K q1 q2
      refine anyU_done (by kernel_rfl) ?_ _
      have HZ := HS.out
      simp only [List.eraseIdx_cons_succ, List.eraseIdx_cons_zero] at HZ
      obtain ⟨k2, g1, g3⟩ := HCL.out _ _ _ (HZ.conv (M := sl 129 4 (.slice p16 (ln + 1) c16) (ln + 1) (xs ++ (opc ⟨(i : Int) + 1, key, false, fr⟩)) :: X :: sl 129 4 (.slice (some ⟨b15, 0, none⟩) 1 1) 1 (opc ⟨(i : Int) + 1, key, false, fr⟩) :: refP 47 109 b K e.last :: rtabP 3 b 2 Qs :: L) (by simp only [all]; ac_rfl))
      have g4 := hid ((g3.conv (M := sl 129 4 (.slice (some ⟨b15, 0, none⟩) 1 1) 1 (opc ⟨(i : Int) + 1, key, false, fr⟩) :: refP 47 109 b K e.last :: rtabP 3 b 2 Qs :: renO b bs k2 (e.upd i fun x => { x with reads := x.reads ++ [(key, fr)] }) :: blk wv.heap.size 107 [.int .i64 va, .int .i64 vv] :: L) (by simp only [all]; ac_rfl)).tail)
      clear HZ g3 HS
      go_wp2_with fail
      go_meet
      exact ⟨k2, hid g1, by rw [← HE1.out]; exact g4.out⟩
     exact NextU.nil
    exact NextU.nil
   exact NextU.nil
  case rest =>
  rename World => w4
  obtain ⟨k2, hk2, hs6⟩ := hcut
  have H6 := hid hs6
  have q9 := (hs6.tail.tail.tail).blk_cell 1 rfl
  have c0 := (hs6.tail.tail.ren_txc HI1.out).2.level
  rw [HLV1.out] at c0
  clear hs6 HQX HCL HS0 HLM hi0 hz0 hz1 hz2
  by_cases hl2 : (e.tx i).level = 2
  case neg =>
   have hb2 : ((e.tx i).level == 2) = false := by simpa using hl2
   have hff : e.read ((i : Int) + 1) key = (e1, vv, E) := by rw [HFF.out, if_neg hl2]
   have HF2 := hid hff
   clear hl2 hff HFF
   go_wp2_with fail
   go_ret2
   exact ⟨by rw [HF2.out]; rfl, by rw [HF2.out]; exact (S.ren_shut (HSM1.out k2 hk2.out.2) H6.out).swap.tail⟩
  rw [if_pos hl2] at HFF
  rw [hl2] at c0
  clear hl2 hb0
  have hsmk := HSM1.out k2 hk2.out.2
  have hKl := hsmk.1.few HOK1.out
  have hnew := hsmk.1.newer (e := e1) rfl HKEY.out (e1.tx i).start
  have hsees : e1.sees i key = (if (sawNew i (newerL (e1.row key) (e1.tx i).start) e1).2 = true then (sawOpen i key (List.range (sawNew i (newerL (e1.row key) (e1.tx i).start) e1).1.txs.length) (sawNew i (newerL (e1.row key) (e1.tx i).start) e1).1, true) else sawNew i (newerL (e1.row key) (e1.tx i).start) e1) := rfl
  rw [← hnew] at hsees
  have hnl : (newOut K key (e1.tx i).start).length ≤ 401 := by
   rw [hnew]
   refine Nat.le_trans (m := (e1.row key).length) ?_ (HOK1.out.row_len key)
   unfold newerL; rw [List.length_map]; exact List.length_filter_le _ _
  have hq : ∀ W M', S w0 W (refP 47 109 b K e1.last :: rtabP 3 b 2 Qs :: renO b bs k2 e1 :: M') → W.cell? ⟨blkOf bs i, 3, none⟩ = some (.int .i64 (e1.tx i).start) := fun W M' h => (h.tail.tail.ren_txc HI1.out).2.start
  have HQ := hid hq; have HSMK := hid hsmk; have HKL := hid hKl; have HSE := hid hsees
  have q0 := hq _ _ H6.out.drew
  clear hsmk hKl hnew hsees hq HL1 HLV1
  go_wp2_with fail
  go_region_held_law (fun w' => w'.cell? ⟨blkOf bs i, 3, none⟩ = some (.int .i64 (e1.tx i).start)) (first | (with_reducible assumption) | (with_reducible exact q0) | (with_reducible exact q1))
   ((go_at_call 51; with_reducible refine (rnewer2 w0 _ b e1.V K e1.last key _ _ HSMK.out.1 H6.out.drew (by have := HKL.out; omega)).mono ?_; rintro r1 w5 ⟨vn, rfl, hs7⟩; obtain ⟨an, cn, rfl, hcn, hcn2, _⟩ := hs7.sl_val; have q1 := HQ.out _ _ hs7.tail; have G2 := hid hs7; clear hs7))
  have H7 := hid G2.out
  unfold maxLen at hcn2
  generalize newOut K key (e1.tx i).start = nl at *
  clear G2 q0 H6 HQ c0 q9 HKL
  go_wp2_with fail
  go_loopw [105] (fun c wr => ∃ (m : Nat) (e2 : Eng) (k3 : RenV), m ≤ nl.length ∧ c = .int .i64 m ∧ Hid (k3.txv = k.txv) ∧ Hid (OkT (N + 1 + m) e2 []) ∧ Hid (Times e2) ∧ Hid (Same e2.V e2.last K ∧ SameT e2.t Qs ∧ Room M [] k3 e2) ∧ Hid (e2.txs.length = e.txs.length ∧ e2.wr = e1.wr ∧ (e2.tx i).alive = true) ∧ Hid (sawNew i nl e1 = sawNew i (nl.drop m) e2) ∧ S w0 wr (sl 3 1 (.slice an nl.length cn) nl.length (icells nl) :: refP 47 109 b K e2.last :: rtabP 3 b 2 Qs :: renO b bs k3 e2 :: blk wv.heap.size 107 [.int .i64 va, .int .i64 vv] :: L)) (fun c _ => nl.length - (intOf c).toNat)
  case atStart => exact ⟨0, e1, k2, Nat.zero_le _, rfl, hid hk2.out.1, HOK1, HTI1, HSMK, hid ⟨HLEN1.out, rfl, HAL1.out⟩, hid rfl, H7.out⟩
  case round =>
   rename World => wr
   obtain ⟨m, e2, k3, hm, rfl, hk3, hok2, hti2, hsm2, hln2, hf1, hsr⟩ := hrel
   clear H7 hk2 HSMK
   have hi2 : i < e2.txs.length := by rw [hln2.out.1, ← HLEN1.out]; exact HI1.out
   by_cases hlt : m < nl.length
   ·have hpn : nl[m]? = some nl[m] := by simp [hlt]
    have hd : nl.drop m = nl[m] :: nl.drop (m + 1) := List.drop_eq_getElem_cons hlt
    generalize nl[m] = t at hpn hd
    have hf2 := hf1.out
    rw [hd] at hf2
    obtain ⟨gn, on, rfl, _, c1⟩ := hsr.sl_int hpn
    have hO : S w0 wr (renO b bs k3 e2 :: refP 47 109 b K e2.last :: rtabP 3 b 2 Qs :: blk wv.heap.size 107 [.int .i64 va, .int .i64 vv] :: sl 3 1 (.slice (some ⟨gn, on, none⟩) nl.length cn) nl.length (icells nl) :: L) := hsr.conv (by simp only [all]; ac_rfl)
    have hc := hO.ren_c.2
    have c14 := hc.wr
    have lk := Tryz.look1 hc.map t
    by_cases hkk : 0 < (mget e2.wr t).getD 0
    ·obtain ⟨kk, hkv⟩ : ∃ kk, mget e2.wr t = some kk := by
      cases hx : mget e2.wr t with
      | none => rw [hx] at hkk; simp at hkk
      | some kk => exact ⟨kk, rfl⟩
     obtain ⟨g1, g2, g3⟩ := hok2.out.wr t kk hkv
     obtain ⟨j, rfl⟩ : ∃ j : Nat, kk = (j : Int) + 1 := ⟨(kk - 1).toNat, by omega⟩
     have hjj : ((j : Int) + 1).toNat - 1 = j := by omega
     rw [hjj] at g3
     have hj : j < e2.txs.length := by omega
     have hij : i ≠ j := by
      intro h; subst h
      have := hln2.out.2.2
      simp [Tx.alive, g3] at this
     rw [hkv] at lk
     simp only [Option.getD_some] at lk
     have c12 := hc.txs
     obtain ⟨a, cap, hv, hle, hcap, hrow⟩ := hc.row
     obtain ⟨g, o, rfl, ci⟩ := hrow j hj
     rw [hv] at c12
     unfold maxLen at hcap
     unfold ptr at ci
     have hstr : Calls Tryz.prog 52 #[.pointer (some ⟨blkOf bs j, 0, none⟩)] wr fun r w' => r = .returned (.bool (e2.tx j).strict) ∧ wr = w' := rstrict_any _ _ _ wr (hO.ren_txc hj).2.level (hO.ren_txc hj).2.state
     have hbnd : ∀ j, j < e2.txs.length → (e2.tx j).aft.length + 1 ≤ 1000000000000 ∧ (e2.tx j).fore.length + 1 ≤ 1000000000000 := fun j hj => by have := hok2.out.fits _ (Eng.tx_mem hj); omega
     have hcall := rahead_any w0 wr b bs k3 e2 i j _ hO hi2 hj hij (hbnd i hi2).1 (hbnd j hj).2 (fun x hx => (hok2.out.txs x hx).refs)
     unfold ptr at hcall
     have hnext : sawNew i (t :: nl.drop (m + 1)) e2 = if (e2.tx j).strict = true then (if (e2.note i j).bad i j = true then (e2.note i j, false) else sawNew i (nl.drop (m + 1)) (e2.note i j)) else sawNew i (nl.drop (m + 1)) e2 := by
      rw [sawNew]
      simp only [hkv, Option.getD_some, hjj]
      by_cases hst : (e2.tx j).strict = true
      ·rw [if_pos ⟨by omega, hst⟩, if_pos hst]
      ·rw [if_neg (fun h => hst h.2), if_neg hst]
     rw [hnext] at hf2
     have hkp : (0 : Int) < (j : Int) + 1 := by omega
     have hok3 := hok2.out.note1 hi2 hj
     have hti3 := hti2.out.note i j
     have hln3 : (e2.note i j).txs.length = e.txs.length ∧ (e2.note i j).wr = e1.wr ∧ ((e2.note i j).tx i).alive = true := ⟨by rw [Eng.note_len]; exact hln2.out.1, hln2.out.2.1, by rw [Eng.note_keep Tx.alive (fun _ _ => rfl) (fun _ _ => rfl)]; exact hln2.out.2.2⟩
     have hsm3 : ∀ k4 : RenV, (∀ m, (k4.v m).own = (k3.v m).own) → Same (e2.note i j).V (e2.note i j).last K ∧ SameT (e2.note i j).t Qs ∧ Room M [] k4 (e2.note i j) := fun k4 h => ⟨hsm2.out.1, hsm2.out.2.1, (hsm2.out.2.2.own h).noted i j⟩
     have hnl3 := Eng.note_len e2 i j
     have HCA := hid hcall; have HSTR := hid hstr; have HF2 := hid hf2; have HSR := hid hsr; have HOK3 := hid hok3; have HTI3 := hid hti3; have HLN3 := hid hln3; have HSM3 := hid hsm3; have HNL3 := hid hnl3; have HI2 := hid hi2
     clear hpn hd hf2 hO hc hi2 hkk hkv g1 g2 g3 hjj hij hv hrow hstr hbnd hcall hnext hsr hf1 hok3 hti3 hln3 hsm3 hnl3
     cases hst : (e2.tx j).strict with
     | false =>
      rw [hst] at HSTR HF2
      have hf3 : sawNew i nl e1 = sawNew i (nl.drop (m + 1)) e2 := by rw [HF2.out]; rfl
      have HF3 := hid hf3
      clear hf3 hst HCA HOK3 HTI3 HLN3 HSM3 HF2
      go_wp2_with (go_at_call 52; with_reducible refine HSTR.out.mono ?_; rintro r w' ⟨rfl, rfl⟩)
      go_roundw
      case rel => exact ⟨m + 1, e2, k3, by omega, by go_num, hk3, hid (hok2.out.mono (by omega)), hti2, hsm2, hln2, HF3, HSR.out⟩
      case measure => simp [intOf]; omega
     | true =>
      rw [hst] at HSTR HF2
      cases hbad : (e2.note i j).bad i j with
      | true =>
       rw [hbad] at HCA
       have hf3 : sawNew i nl e1 = (e2.note i j, false) := by rw [HF2.out]; simp [hbad]
       have hse : e1.sees i key = (e2.note i j, false) := by rw [HSE.out, hf3]; rfl
       have hff : e.read ((i : Int) + 1) key = ((e2.note i j).goes i 13, 0, 13) := by rw [HFF.out, hse]; rfl
       have HF4 := hid hff
       clear hf3 hse hff hst hbad HF2 HSE HFF
       go_wp2_with (first | (go_at_call 52; with_reducible refine HSTR.out.mono ?_; rintro r w' ⟨rfl, rfl⟩) | (go_at_call 53; with_reducible refine HCA.out.mono ?_; rintro r w' ⟨k4, hk4, rfl, hs8⟩; have H8 := hid hs8; have HK4 := hid hk4; clear hs8 hk4))
       have hgo := rgoes_any (e2.note i j).open_ w0 _ b bs (e2.note i j) i 13 (blk wv.heap.size 107 [.int .i64 va, .int .i64 vv] :: sl 3 1 (.slice (some ⟨gn, on, none⟩) nl.length cn) nl.length (icells nl) :: L) (N + 1 + m + 1) [] M HOK3.out HTI3.out (by rw [HNL3.out]; exact HI2.out) HLN3.out.2.2 (by simp) (Nat.le_refl _) (by omega) hM (S.ren_shut (HSM3.out k4 HK4.out.2) (H8.out.conv (by simp only [all]; show _ = sep (refP _ _ b K e2.last) _; ac_rfl)))
       have HGO := hid hgo
       clear hgo
       with_reducible refine HGO.out.mono ?_
       rintro r w6 ⟨rfl, hs9⟩
       have H9 := hid hs9
       clear hs9
       go_wp2_with fail
       go_ret2
       exact ⟨by rw [HF4.out]; rfl, by rw [HF4.out]; exact H9.out.swap.tail.swap.tail⟩
      | false =>
       rw [hbad] at HCA
       have hf3 : sawNew i nl e1 = sawNew i (nl.drop (m + 1)) (e2.note i j) := by rw [HF2.out]; simp [hbad]
       have HF3 := hid hf3
       clear hf3 hst hbad HF2
       go_wp2_with (first | (go_at_call 52; with_reducible refine HSTR.out.mono ?_; rintro r w' ⟨rfl, rfl⟩) | (go_at_call 53; with_reducible refine HCA.out.mono ?_; rintro r w' ⟨k4, hk4, rfl, hs8⟩; have H8 := hid hs8; have HK4 := hid hk4; clear hs8 hk4))
       go_roundw
       case rel => exact ⟨m + 1, e2.note i j, k4, by omega, by go_num, hid (HK4.out.1.trans hk3.out), HOK3, HTI3, hid (HSM3.out k4 HK4.out.2), HLN3, HF3, H8.out.conv (by simp only [all]; show _ = sep _ (sep (refP _ _ b K e2.last) _); ac_rfl)⟩
       case measure => simp [intOf]; omega
    ·have hf3 : sawNew i nl e1 = sawNew i (nl.drop (m + 1)) e2 := by
      rw [hf2, sawNew]
      simp only
      rw [if_neg (fun h => hkk h.1)]
     generalize (mget e2.wr t).getD 0 = kk at lk hkk
     have hkn : kk ≤ 0 := by omega
     have HF3 := hid hf3; have HSR := hid hsr
     clear hpn hd hf2 hf3 hO hc hi2 hkk hsr hf1
     go_wp2_with fail
     go_roundw
     case rel => exact ⟨m + 1, e2, k3, by omega, by go_num, hk3, hid (hok2.out.mono (by omega)), hti2, hsm2, hln2, HF3, HSR.out⟩
     case measure => simp [intOf]; omega
   ·have hd : nl.drop m = [] := List.drop_eq_nil_iff.2 (by omega)
    have hf2 := hf1.out
    rw [hd] at hf2
    have hse : e1.sees i key = (sawOpen i key (List.range e.txs.length) e2, true) := by
     rw [HSE.out, hf2]
     show ((sawOpen i key (List.range e2.txs.length) e2, true) : Eng × Bool) = _
     rw [hln2.out.1]
    have hff : e.read ((i : Int) + 1) key = (sawOpen i key (List.range e.txs.length) e2, vv, E) := by rw [HFF.out, hse]; rfl
    have hc := hsr.tail.tail.tail.ren_c.2
    have c12 := hc.txs
    obtain ⟨a, cap, hv, hle, hcap, hrow⟩ := hc.row
    rw [hv, hln2.out.1] at c12
    unfold maxLen at hcap
    have hle2 : e.txs.length ≤ cap := by rw [← hln2.out.1]; exact hle
    have hrw : ∀ (W : World) (k4 : RenV) (e3 : Eng) (M' : List HProp), k4.txv = k.txv → e3.txs.length = e.txs.length → S w0 W (renO b bs k4 e3 :: M') → ∀ j, j < e.txs.length → ∃ g o, a = some ⟨g, o, none⟩ ∧ W.cell? ⟨g, o + j, none⟩ = some (ptr bs j) := by
     intro W k4 e3 M' h1 h2 h3 j hj
     obtain ⟨a', cap', h4, _, _, h5⟩ := h3.ren_c.2.row
     obtain ⟨g', o', h6, h7⟩ := h5 j (by omega)
     rw [h1, ← hk3.out, hv] at h4
     simp only [Value.slice.injEq] at h4
     exact ⟨g', o', by rw [h4.1, h6], h7⟩
    have hokm := hok2.out.mono (M := N + 402 + 0) (by omega)
    have HRW := hid hrw; have HF4 := hid hff; have HSR1 := hid hsr.tail; have HOKM := hid hokm; have HLN1 := hid hln2.out.1
    have hfew := HOK1.out.few
    rw [HLEN1.out] at hfew
    clear hd hf2 hse hff hc hv hle hrow hrw hsr hf1 hok2 hokm HSE HFF hln2 hi2
    go_wp2_with fail
    go_loopw [149] (fun c wr => ∃ (m : Nat) (e3 : Eng) (k4 : RenV), m ≤ e.txs.length ∧ c = .int .i64 m ∧ Hid (k4.txv = k.txv) ∧ Hid (OkT (N + 402 + m) e3 []) ∧ Hid (Times e3) ∧ Hid (Same e3.V e3.last K ∧ SameT e3.t Qs ∧ Room M [] k4 e3) ∧ Hid (e3.txs.length = e.txs.length) ∧ Hid (sawOpen i key (List.range e.txs.length) e2 = sawOpen i key ((List.range e.txs.length).drop m) e3) ∧ S w0 wr (refP 47 109 b K e3.last :: rtabP 3 b 2 Qs :: renO b bs k4 e3 :: blk wv.heap.size 107 [.int .i64 va, .int .i64 vv] :: L)) (fun c _ => e.txs.length - (intOf c).toNat)
    case atStart => exact ⟨0, e2, k3, Nat.zero_le _, rfl, hk3, HOKM, hti2, hsm2, HLN1, hid rfl, HSR1.out⟩
    case round =>
     rename World => wq
     obtain ⟨q, e3, k4, hq, rfl, hk4, hok3, hti3, hsm3, hln3, hf1, hsr⟩ := hrel
     clear HSR1 HOKM HLN1 hti2 hsm2
     by_cases hlt2 : q < e.txs.length
     ·have hd : (List.range e.txs.length).drop q = q :: (List.range e.txs.length).drop (q + 1) := by rw [List.drop_eq_getElem_cons (by simpa using hlt2)]; simp
      have hf2 := hf1.out
      rw [hd] at hf2
      have hj : q < e3.txs.length := by rw [hln3.out]; exact hlt2
      have hi3 : i < e3.txs.length := by rw [hln3.out, ← HLEN1.out]; exact HI1.out
      have hO : S w0 wq (renO b bs k4 e3 :: refP 47 109 b K e3.last :: rtabP 3 b 2 Qs :: blk wv.heap.size 107 [.int .i64 va, .int .i64 vv] :: L) := hsr.ren_o
      obtain ⟨g, o, rfl, ci⟩ := HRW.out wq k4 e3 _ hk4.out hln3.out hO q hlt2
      unfold ptr at ci
      have hx := (hO.ren_txc hj).2
      have hown := rown_any wq _ q bs _ _ key hx
      have halv := ralive_any (blkOf bs q) _ wq (hok3.out.at hj).state.1 hx.state
      have hstr := rstrict_any (blkOf bs q) _ _ wq hx.level hx.state
      have hbnd : ∀ j, j < e3.txs.length → (e3.tx j).aft.length + 1 ≤ 1000000000000 ∧ (e3.tx j).fore.length + 1 ≤ 1000000000000 := fun j hj => by have := hok3.out.fits _ (Eng.tx_mem hj); omega
      have hcall := fun hij => rahead_any w0 wq b bs k4 e3 i q _ hO hi3 hj hij (hbnd i hi3).1 (hbnd q hj).2 (fun x hx => (hok3.out.txs x hx).refs)
      unfold ptr at hcall
      have hoth := fun hne => neqR_other (hs := hO) hi3 hj hne
      have hbn := fun hij : q ≠ i => rblk_ne hO.ren_c.2 hj hi3 hij
      have hsd : (e3.tx q).strict = (decide ((e3.tx q).level = 2) && decide ((e3.tx q).state ≠ 3)) := rfl
      have had : (e3.tx q).alive = decide ((e3.tx q).state ≤ 1) := rfl
      rw [← hsd] at hstr
      rw [← had] at halv
      have hokn := hok3.out.note1 hi3 hj
      have hlnn := Eng.note_len e3 i q
      have htin := hti3.out.note i q
      have hsmn : ∀ k5 : RenV, (∀ m, (k5.v m).own = (k4.v m).own) → Same (e3.note i q).V (e3.note i q).last K ∧ SameT (e3.note i q).t Qs ∧ Room M [] k5 (e3.note i q) := fun k5 h => ⟨hsm3.out.1, hsm3.out.2.1, (hsm3.out.2.2.own h).noted i q⟩
      generalize (mget (e3.tx q).writes key).getD 0 = wv2 at hown
      generalize hst : (e3.tx q).strict = st at *
      generalize hws : (e3.tx q).wrote key = ws at *
      generalize hal : (e3.tx q).alive = al at *
      have HCA := hid hcall; have HOWN := hid hown; have HALV := hid halv; have HSTR := hid hstr; have HSR := hid hsr; have HOKN := hid hokn; have HLNN := hid hlnn; have HTIN := hid htin; have HSMN := hid hsmn
      have HST := hid hst; have HWS := hid hws; have HAL := hid hal; have HOTH := hid hoth; have HBN := hid hbn
      clear hd hj hi3 hO hx hown halv hstr hbnd hcall hoth hbn hsd had hsr hf1 hokn hlnn htin hsmn hst hws hal
      cases ws with
      | false =>
       have hf3 : sawOpen i key (List.range e.txs.length) e2 = sawOpen i key ((List.range e.txs.length).drop (q + 1)) e3 := by rw [hf2, sawOpen, if_neg (by simp [HWS.out])]
       have HF3 := hid hf3
       clear hf2 hf3 HCA HSTR HALV HOKN HLNN HTIN HSMN HST HWS HAL HOTH HBN
       go_wp2_with (go_at_call 49; with_reducible refine HOWN.out.mono ?_; rintro r w' ⟨rfl, rfl⟩)
       go_roundw
       case rel => exact ⟨q + 1, e3, k4, by omega, by go_num, hk4, hid (hok3.out.mono (by omega)), hti3, hsm3, hln3, HF3, HSR.out⟩
       case measure => simp [intOf]; omega
      | true =>
       by_cases hmi : q = i
       ·subst hmi
        have hnq := fun w => neqR_same w (blkOf bs q)
        have hf3 : sawOpen q key (List.range e.txs.length) e2 = sawOpen q key ((List.range e.txs.length).drop (q + 1)) e3 := by rw [hf2, sawOpen, if_neg (by simp)]
        have HF3 := hid hf3
        clear hf2 hf3 HCA HSTR HALV HOKN HLNN HTIN HSMN HST HWS HAL HOTH HBN
        go_wp2_with (go_at_call 49; with_reducible refine HOWN.out.mono ?_; rintro r w' ⟨rfl, rfl⟩)
        go_roundw
        case rel => exact ⟨q + 1, e3, k4, by omega, by go_num, hk4, hid (hok3.out.mono (by omega)), hti3, hsm3, hln3, HF3, HSR.out⟩
        case measure => simp [intOf]; omega
       ·have hnq := HOTH.out (HBN.out hmi)
        cases al with
        | false =>
         have hf3 : sawOpen i key (List.range e.txs.length) e2 = sawOpen i key ((List.range e.txs.length).drop (q + 1)) e3 := by rw [hf2, sawOpen, if_neg (by simp [HAL.out])]
         have HF3 := hid hf3
         clear hf2 hf3 HCA HSTR HOKN HLNN HTIN HSMN HST HWS HAL HOTH HBN hmi
         go_wp2_with (first | (go_at_call 49; with_reducible refine HOWN.out.mono ?_; rintro r w' ⟨rfl, rfl⟩) | (go_at_call 47; with_reducible refine HALV.out.mono ?_; rintro r w' ⟨rfl, rfl⟩))
         go_roundw
         case rel => exact ⟨q + 1, e3, k4, by omega, by go_num, hk4, hid (hok3.out.mono (by omega)), hti3, hsm3, hln3, HF3, HSR.out⟩
         case measure => simp [intOf]; omega
        | true =>
         cases st with
         | false =>
          have hf3 : sawOpen i key (List.range e.txs.length) e2 = sawOpen i key ((List.range e.txs.length).drop (q + 1)) e3 := by rw [hf2, sawOpen, if_neg (by simp [HST.out])]
          have HF3 := hid hf3
          clear hf2 hf3 HCA HOKN HLNN HTIN HSMN HST HWS HAL HOTH HBN hmi
          go_wp2_with (first | (go_at_call 49; with_reducible refine HOWN.out.mono ?_; rintro r w' ⟨rfl, rfl⟩) | (go_at_call 47; with_reducible refine HALV.out.mono ?_; rintro r w' ⟨rfl, rfl⟩) | (go_at_call 52; with_reducible refine HSTR.out.mono ?_; rintro r w' ⟨rfl, rfl⟩))
          go_roundw
          case rel => exact ⟨q + 1, e3, k4, by omega, by go_num, hk4, hid (hok3.out.mono (by omega)), hti3, hsm3, hln3, HF3, HSR.out⟩
          case measure => simp [intOf]; omega
         | true =>
          have hf3 : sawOpen i key (List.range e.txs.length) e2 = sawOpen i key ((List.range e.txs.length).drop (q + 1)) (e3.note i q) := by rw [hf2, sawOpen, if_pos (by simp [HWS.out, HST.out, HAL.out, hmi])]
          have HF3 := hid hf3; have HC2 := hid (HCA.out (Ne.symm hmi))
          clear hf2 hf3 HCA HST HWS HAL HOTH HBN hmi
          go_wp2_with (first | (go_at_call 49; with_reducible refine HOWN.out.mono ?_; rintro r w' ⟨rfl, rfl⟩) | (go_at_call 47; with_reducible refine HALV.out.mono ?_; rintro r w' ⟨rfl, rfl⟩) | (go_at_call 52; with_reducible refine HSTR.out.mono ?_; rintro r w' ⟨rfl, rfl⟩) | (go_at_call 53; with_reducible refine HC2.out.mono ?_; rintro r w' ⟨k5, hk5, rfl, hs3⟩; have H5 := hid hs3; have HK5 := hid hk5; clear hs3 hk5))
          go_roundw
          case rel => exact ⟨q + 1, e3.note i q, k5, by omega, by go_num, hid (HK5.out.1.trans hk4.out), HOKN, HTIN, hid (HSMN.out k5 HK5.out.2), hid (HLNN.out.trans hln3.out), HF3, H5.out.conv (by simp only [all]; show _ = sep (refP _ _ b K e3.last) _; ac_rfl)⟩
          case measure => simp [intOf]; omega
     ·have hd : (List.range e.txs.length).drop q = [] := List.drop_eq_nil_iff.2 (by simp; omega)
      have hf2 := hf1.out
      rw [hd, sawOpen] at hf2
      have hff : e.read ((i : Int) + 1) key = (e3, vv, E) := by rw [HF4.out, hf2]
      have q9 := hsr.tail.tail.tail.blk_cell 1 rfl
      have HF5 := hid hff; have HSR := hid hsr
      clear hd hf2 hff hsr hf1 HF4
      go_wp2_with fail
      go_ret2
      exact ⟨by rw [HF5.out]; rfl, by rw [HF5.out]; exact (S.ren_shut hsm3.out HSR.out).swap.tail⟩
end Go.Proofs.YtmfngjclccehaaaGreatDoor
