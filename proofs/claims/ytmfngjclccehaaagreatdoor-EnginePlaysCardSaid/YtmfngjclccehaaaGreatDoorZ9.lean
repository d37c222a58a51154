/- The reference's engine: puts: what one that holds the key writes. -/
import Derived.Test.YtmfngjclccehaaaGreatDoorZ0
import Derived.Test.YtmfngjclccehaaaGreatDoorZ6
import Derived.Test.YtmfngjclccehaaaGreatDoorZ7
import Derived.Test.YtmfngjclccehaaaGreatDoorZ1
import Derived.Deep.RegionHeldLaw
import Derived.LaidEqlPtr
import Derived.Lib.Builder
import Derived.Test.YtmfngjclccehaaaGreatDoorZ8
namespace Go.Proofs.YtmfngjclccehaaaGreatDoor
open Go Go.RowKit Go.Sep
section
variable {w w0 : World} {L : List HProp} {M N : Nat} {T : List Nat} {b : Nat} {bs : List Nat} {k k' : RenV} {e : Eng} {i : Nat} {K : List Kep} {U : List Task}
theorem Room.shrink (h : Room M (i :: T) k e) : Room M T k e := by
 intro j hj
 have h1 := h j hj
 by_cases hc : (e.tx j).state = 1 ∨ j ∈ T
 ·rw [if_pos (hc.imp id (List.mem_cons_of_mem _))] at h1; rw [if_pos hc]; exact h1
 ·rw [if_neg hc]; omega
theorem Room.own (h : Room M T k e) (hk : ∀ m, (k'.v m).own = (k.v m).own) : Room M T k' e := by
 intro j hj; rw [hk]; exact h j hj
theorem Room.noted (h : Room M T k e) (a c : Nat) : Room M T k (e.note a c) := by
 intro j hj; rw [Eng.note_len] at hj; rw [Eng.note_state]; exact h j hj
theorem Room.one (h : Room M [i] k e) (hi : i < e.txs.length) : (k.v i).own.length + 1 ≤ M := by
 have h1 := h i hi
 rwa [if_pos (.inr (by simp))] at h1
theorem Room.wput (h : Room M [i] k e) (hk : e.txs.length ≤ k.tv.length) (hst : (e.tx i).state ≠ 1) (p : Int × Int) (v' : Value) : Room M [] (k.set i { k.v i with ov := v', own := (k.v i).own ++ [p] }) (e.wput i p) := by
 intro j hj
 have hj2 : j < e.txs.length := by rw [← Eng.upd_len e i fun x => { x with writes := mput x.writes p.1 p.2 }]; exact hj
 have hs : ((e.wput i p).tx j).state = (e.tx j).state := Eng.upd_keep (·.state) (fun x => { x with writes := mput x.writes p.1 p.2 }) (fun _ => rfl) j
 have h1 := h j hj2
 rw [hs]
 by_cases hc : i = j
 ·subst hc
  rw [if_pos (.inr (by simp))] at h1
  rw [if_neg (by simp [hst])]
  have : ((k.set i { k.v i with ov := v', own := (k.v i).own ++ [p] }).v i).own = (k.v i).own ++ [p] := by
   unfold RenV.set RenV.v
   simp [show i < k.tv.length by omega]
  rw [this, List.length_append]; simpa using h1
 ·have : ((k.set i { k.v i with ov := v', own := (k.v i).own ++ [p] }).v j) = k.v j := by
   unfold RenV.set RenV.v
   simp [hc]
  rw [this]
  simpa [Ne.symm hc] using h1
theorem Same.newer {V : List Vers} {last : Int} (h : Same V last K) (hV : V = e.V) {key : Int} (hk : keyOk key) (at_ : Int) : newOut K key at_ = newerL (e.row key) at_ := by
 subst hV
 obtain ⟨n, rfl⟩ : ∃ n : Nat, key = n := ⟨key.toNat, by have := hk.1; omega⟩
 have hn : n < 10 := by have := hk.2; omega
 unfold newOut
 rw [if_pos (by omega), rnewer_eq]
 unfold Eng.row
 rw [Int.toNat_natCast, h.key n hn]; rfl
theorem sum_le {l : List Nat} {m : Nat} (h : ∀ x ∈ l, x ≤ m) : l.sum ≤ l.length * m := by
 induction l with
 | nil => simp
 | cons a l ih =>
  have h1 := h a (by simp)
  have h2 := ih fun x hx => h x (List.mem_cons_of_mem _ hx)
  simp only [List.sum_cons, List.length_cons, Nat.add_mul, Nat.one_mul]; omega
theorem Same.few (hS : Same e.V e.last K) (h : OkT N e U) : K.length ≤ 4010 := by
 have h1 := hS.many
 unfold manyV at h1
 have h2 := sum_le (l := e.V.map List.length) (m := 401) (fun x hx => by
  obtain ⟨vs, hv, rfl⟩ := List.mem_map.1 hx
  have h3 := h.rows vs hv
  have h4 := h.cnt
  have h5 := h.few
  have : (0 : Int) ≤ e.open_ := by omega
  omega)
 rw [List.length_map, h.v10] at h2
 omega
theorem _root_.Go.Sep.S.ren_tvs (h : S w0 w (renO b bs k e :: L)) : k.tv.length = e.txs.length := h.sep_elim.pur_elim.1
end
theorem roX_see {w w0 : World} {L : List HProp} {b : Nat} {bs : List Nat} {k : RenV} {e : Eng} {i wb : Nat} {key val : Int} (h : S w0 w (sep (roX b bs k e i) (blk wb 101 [.int .i64 key, .int .i64 val]) :: L)) :
  (w.cell? ⟨blkOf bs i, 7, none⟩ = some (k.v i).ov ∧ w.frozen? ⟨blkOf bs i, 7, none⟩ = false) ∧ w.cell? ⟨wb, 0, none⟩ = some (.int .i64 key) ∧ w.cell? ⟨wb, 1, none⟩ = some (.int .i64 val) :=
 ⟨h.sep_elim.ro_see, h.sep_elim.tail.blk_cell 0 rfl, h.sep_elim.tail.blk_cell 1 rfl⟩
theorem ro_step {w0 w : World} {b : Nat} {bs : List Nat} {k : RenV} {e : Eng} {i M wb : Nat} {key val : Int} {L : List HProp} (hs : S w0 w (blk wb 101 [.int .i64 key, .int .i64 val] :: renO b bs k e :: L)) (hi : i < e.txs.length) (hR : Room M [i] k e) (hst : (e.tx i).state ≠ 1) :
  ∃ ar cr ln xs X, ln + 1 ≤ M ∧ ln ≤ cr ∧ cr ≤ maxLen ∧ S w0 w (sl 101 2 (.slice ar ln cr) ln xs :: X :: L) ∧
   (∀ W M', S w0 W (X :: M') → (W.cell? ⟨blkOf bs i, 7, none⟩ = some (.slice ar ln cr) ∧ W.frozen? ⟨blkOf bs i, 7, none⟩ = false) ∧ W.cell? ⟨wb, 0, none⟩ = some (.int .i64 key) ∧ W.cell? ⟨wb, 1, none⟩ = some (.int .i64 val)) ∧
   (∀ W v' L', S w0 W (sl 101 2 v' (ln + 1) (xs ++ pcells [(key, val)]) :: X :: L') → ∃ k', k'.txv = k.txv ∧ Room M [] k' (e.wput i (key, val)) ∧ S w0 (W.setCell ⟨blkOf bs i, 7, none⟩ v') (blk wb 101 [.int .i64 key, .int .i64 val] :: renO b bs k' (e.wput i (key, val)) :: L')) := by
 have htv := hs.tail.ren_tvs
 have h2 := (hs.swap.ro_open hi)
 obtain ⟨ar, cr, hov, hl1, hl2, _⟩ := h2.sl_val
 rw [hov] at h2
 refine ⟨ar, cr, _, _, sep (roX b bs k e i) (blk wb 101 [.int .i64 key, .int .i64 val]), hR.one hi, hl1, hl2, h2.conv (by simp only [all]; ac_rfl), fun W M' h => by rw [← hov]; exact roX_see h, fun W v' L' h => ?_⟩
 have h3 : S w0 W (sl 101 2 v' ((k.v i).own.length + 1) (pcells (k.v i).own ++ pcells [(key, val)]) :: roX b bs k e i :: blk wb 101 [.int .i64 key, .int .i64 val] :: L') := h.conv (by simp only [all]; ac_rfl)
 exact ⟨k.set i { k.v i with ov := v', own := (k.v i).own ++ [(key, val)] }, rfl, hR.wput (by omega) hst (key, val) v', (h3.ro_close hi).swap⟩
theorem RtxC.rs_at {w : World} {bs : List Nat} {p i : Nat} {v : RtxV} {x : Tx} {a : Option Addr} {cap : Nat} (h : RtxC w bs p i v x) (hv : v.rv = .slice a x.reads.length cap) : ∀ j p, x.reads[j]? = some p → ∃ g o, a = some ⟨g, o, none⟩ ∧ w.cell? ⟨g, o + j * 4, none⟩ = some (.int .i64 ((i : Int) + 1)) ∧ w.cell? ⟨g, o + j * 4 + 1, none⟩ = some (.int .i64 p.1) ∧ w.cell? ⟨g, o + j * 4 + 2, none⟩ = some (.bool false) ∧ w.cell? ⟨g, o + j * 4 + 3, none⟩ = some (.int .i64 p.2) := by
 obtain ⟨a', cap', h1, _, _, h4⟩ := h.rs
 rw [hv] at h1
 simp only [Value.slice.injEq] at h1
 obtain ⟨rfl, _, _⟩ := h1
 exact h4
theorem rtx_size : (Tryz.prog.info? 103).map (·.size) = some 12 := by kernel_rfl
theorem neqR_same (w : World) (p : Nat) : (binOp .neq 90 (.pointer (some ⟨p, 0, none⟩)) (.pointer (some ⟨p, 0, none⟩))).run Tryz.prog w = .ok (.bool false) w := by
 obtain ⟨j, hj, _⟩ := Option.map_eq_some_iff.1 rtx_size
 exact Lib.run_neq_ptr_same w ⟨p, 0, none⟩ Tryz.underlying90 hj
theorem one_pairW (p : Int × Int) : ∀ u ∈ pcells [p], u.oneCell' = true := by
 intro u hu
 simp [pcells] at hu
 rcases hu with rfl | rfl <;> rfl
theorem any_pair_step {l : List (Int × Int)} {m : Nat} {p : Int × Int} (h : l[m]? = some p) (key : Int) : ((l.take (m + 1)).any fun r => decide (r.1 = key)) = (((l.take m).any fun r => decide (r.1 = key)) || decide (p.1 = key)) := by
 rw [take_succ_get h, List.any_append]; simp
theorem neqR_other {w0 w : World} {b : Nat} {bs : List Nat} {k : RenV} {e : Eng} {i m : Nat} {L : List HProp} (hs : S w0 w (renO b bs k e :: L)) (hi : i < e.txs.length) (hm : m < e.txs.length) (hne : blkOf bs m ≠ blkOf bs i) :
  (binOp .neq 90 (.pointer (some ⟨blkOf bs m, 0, none⟩)) (.pointer (some ⟨blkOf bs i, 0, none⟩))).run Tryz.prog w = .ok (.bool true) w := by
 obtain ⟨j, hj, hsz⟩ := Option.map_eq_some_iff.1 rtx_size
 have ha := (hs.ren_tx hm).sep_elim.blk_heap
 have hb := (hs.ren_tx hi).sep_elim.blk_heap
 have hne' : (⟨blkOf bs m, 0, none⟩ : Addr) ≠ ⟨blkOf bs i, 0, none⟩ := fun e1 => hne (congrArg Addr.block e1)
 have h : ∀ d : Nat, (Op.equalIn (d + 1) 90 (.pointer (some ⟨blkOf bs m, 0, none⟩)) (.pointer (some ⟨blkOf bs i, 0, none⟩))).run Tryz.prog w = .ok false w := fun d => by
  simp [Op.equalIn, run_underlying Tryz.underlying90, sizeOf, typeInfo, hj, hsz, run_sameAddr_other w hne' ha hb]
 simp only [binOp]
 simp [Op.equal, Op.maxDepth, h 9999]
theorem rblk_ne {w : World} {b : Nat} {bs : List Nat} {k : RenV} {e : Eng} (h : RenC w b bs k e) {i j : Nat} (hi : i < e.txs.length) (hj : j < e.txs.length) (hne : i ≠ j) : blkOf bs i ≠ blkOf bs j := by
 have h1 := h.len.1
 unfold blkOf
 rw [List.getElem?_eq_getElem (by omega), List.getElem?_eq_getElem (by omega)]
 intro h2
 exact hne ((List.getElem_inj h.len.2).1 h2)
set_option linter.unusedSimpArgs false in
set_option maxRecDepth 100000 in
set_option maxHeartbeats 20000000 in
theorem rputs_any (n : Nat) (hg : RGoesAny n) : RPutsAny n := by
 intro w0 w b bs e i key val L N U M hok hti ho hN hM hs
 have hk0 := hok.ok _ (List.mem_cons_self ..)
 obtain ⟨hst, hkey, hval, _⟩ := hk0.put i (key, val) rfl
 have hi : i < e.txs.length := hk0.lt
 obtain ⟨k, K, Qs, ⟨hS, hST, hRm⟩, hs⟩ := hs.ren_open
 have hKl := hS.few hok
 have hnew := hS.newer rfl hkey
 have h1 := hs.alloc #[.int .i64 key, .int .i64 val] 101
 have hO : ∀ W M', S w0 W (M' ++ (refP 47 109 b K e.last :: rtabP 3 b 2 Qs :: renO b bs k e :: L)) → S w0 W (renO b bs k e :: L) := fun W M' h => (h.rest).tail.tail
 have hc := (hO _ [_] h1).ren_c.2
 have c12 := hc.txs
 obtain ⟨a, cap, hv, hle, hcap, hrow⟩ := hc.row
 obtain ⟨g, o, rfl, ci⟩ := hrow i hi
 rw [hv] at c12
 unfold maxLen at hcap
 unfold ptr at ci
 have hRK := hS
 have HS := hid h1; have HO := hid hO; have HOK := hid hok; have HG := hid hg; have HV := hid hv; have HSM := hid (And.intro hS hST); have HRM := hid hRm; have HTI := hid hti
 have hq : ∀ W M', S w0 W (blk w.heap.size 101 [.int .i64 key, .int .i64 val] :: refP 47 109 b K e.last :: rtabP 3 b 2 Qs :: renO b bs k e :: M') → W.cell? ⟨w.heap.size, 0, none⟩ = some (.int .i64 key) ∧ W.cell? ⟨blkOf bs i, 3, none⟩ = some (.int .i64 (e.tx i).start) := fun W M' h =>
  ⟨h.blk_cell 0 rfl, (h.tail.tail.tail.ren_txc hi).2.start⟩
 have HQ := hid hq
 have q0 := hq _ _ h1.drew
 have HHI := hid hi; have HKL := hid hKl
 have HNW := hid hnew
 clear h1 hO hc hrow hok hg hq hs hk0 hv hRK hS hST hRm hti hKl hnew
 go_enter Tryz.func60, Tryz.ntmps60
 go_wp2_with fail
 go_region_held_law (fun w' => w'.cell? ⟨w.heap.size, 0, none⟩ = some (.int .i64 key) ∧ w'.cell? ⟨blkOf bs i, 3, none⟩ = some (.int .i64 (e.tx i).start)) (first | (with_reducible assumption) | (with_reducible exact q0) | (with_reducible exact q1))
  ((go_at_call 51; with_reducible refine (rnewer2 w0 _ b e.V K e.last key _ _ HSM.out.1 (HS.out.drew.swap) (by have := HKL.out; omega)).mono ?_; rintro r w2 ⟨vn, rfl, hs2⟩; obtain ⟨an, cn, rfl, hcn, hcn2, _⟩ := hs2.sl_val; have q1 := HQ.out _ _ (hs2.tail.swap); have G2 := hid hs2; clear hs2))
 have hs3 := G2.out.tail.swap
 have c0 := (hs3.tail.tail.tail.ren_txc HHI.out).2.level
 unfold maxLen at hcn2
 have HLT : Hid (e.late i key ↔ (e.tx i).level ≠ 0 ∧ newOut K key (e.tx i).start ≠ []) := hid (by rw [HNW.out]; exact Iff.rfl)
 have HM : Hid (newOut K key (e.tx i).start ≠ [] ↔ 0 < (newOut K key (e.tx i).start).length) := hid (by rw [List.length_pos_iff])
 have hml : (newOut K key (e.tx i).start).length ≤ 9223372036854775807 := by omega
 generalize (newOut K key (e.tx i).start).length = m at *
 have H3 := hid hs3
 clear hs3 q0 G2 HS
 by_cases hl : e.late i key
 ·obtain ⟨hl0, hl1⟩ := HLT.out.1 hl
  have hm0 := HM.out.1 hl1
  have hb0 : ((e.tx i).level != 0) = true := by simpa using hl0
  have hlv : putsG (goesN n) e i (key, val) = goesN n e i 10 := if_pos hl
  have HF := hid hlv
  have hcall := HG.out w0 _ b bs e i 10 L N U M (HOK.out.tail (by simp)) HTI.out HHI.out (by simp [Tx.alive, hst]) (HOK.out.who_ne) ho hN hM (S.ren_shut (T := []) ⟨HSM.out.1, HSM.out.2, HRM.out.shrink⟩ H3.out.tail)
  have HC := hid hcall
  clear hl hl0 hl1 hlv hcall HLT HM
  go_wp2_with fail
  with_reducible refine HC.out.mono ?_
  rintro r w' ⟨rfl, hs'⟩
  have H4 := hid hs'
  clear hs'
  go_wp2_with fail
  refine bodyPost_ret (v := .tuple #[]) (by simp [results, Tryz.results60, go_sem]) rfl ?_
  exact ⟨rfl, by rw [HF.out]; exact H4.out⟩
 have hw := HOK.out.wput
 have HW := hid hw
 have hro : ∀ W, S w0 W (blk w.heap.size 101 [.int .i64 key, .int .i64 val] :: refP 47 109 b K e.last :: rtabP 3 b 2 Qs :: renO b bs k e :: L) →
   ∃ ar cr ln xs X, ln + 1 ≤ M ∧ ln ≤ cr ∧ cr ≤ maxLen ∧ S w0 W (sl 101 2 (.slice ar ln cr) ln xs :: X :: refP 47 109 b K e.last :: rtabP 3 b 2 Qs :: L) ∧
   (∀ W M', S w0 W (X :: M') → (W.cell? ⟨blkOf bs i, 7, none⟩ = some (.slice ar ln cr) ∧ W.frozen? ⟨blkOf bs i, 7, none⟩ = false) ∧ W.cell? ⟨w.heap.size, 0, none⟩ = some (.int .i64 key) ∧ W.cell? ⟨w.heap.size, 1, none⟩ = some (.int .i64 val)) ∧
   (∀ W v' L', S w0 W (sl 101 2 v' (ln + 1) (xs ++ pcells [(key, val)]) :: X :: L') → ∃ k', k'.txv = k.txv ∧ Room M [] k' (e.wput i (key, val)) ∧ S w0 (W.setCell ⟨blkOf bs i, 7, none⟩ v') (blk w.heap.size 101 [.int .i64 key, .int .i64 val] :: renO b bs k' (e.wput i (key, val)) :: L')) := fun W h =>
  ro_step (h.conv (M := blk w.heap.size 101 [.int .i64 key, .int .i64 val] :: renO b bs k e :: refP 47 109 b K e.last :: rtabP 3 b 2 Qs :: L) (by simp only [all]; ac_rfl)) HHI.out HRM.out (by omega)
 have HRO := hid hro
 clear hro hw
 go_upto_region 3 with fail
 go_cut [44] (fun c wx => c = .bool false ∧ S w0 wx (blk w.heap.size 101 [.int .i64 key, .int .i64 val] :: refP 47 109 b K e.last :: rtabP 3 b 2 Qs :: renO b bs k e :: L))
 case first =>
  by_cases h0 : (e.tx i).level = 0
  ·have hb : ((e.tx i).level != 0) = false := by simp [h0]
   clear hl h0 HLT HM
   go_wp2_with fail
   go_meet
   exact ⟨rfl, H3.out⟩
  ·have hb : ((e.tx i).level != 0) = true := by simpa using h0
   obtain rfl : m = 0 := by
    rcases Nat.eq_zero_or_pos m with h1 | h1
    ·exact h1
    ·exact absurd (HLT.out.2 ⟨h0, HM.out.2 h1⟩) hl
   clear hl h0 HLT HM
   go_wp2_with fail
   go_meet
   exact ⟨rfl, H3.out⟩
 case rest =>
 rename World => w3
 obtain ⟨rfl, hs4⟩ := hcut
 obtain ⟨ar, cr, ln, xs, X, hln, hlc, hcr, hs5, hx, hcl⟩ := HRO.out _ hs4
 have hlm : ln + 1 ≤ 1000000000000 := by omega
 unfold maxLen at hcr
 have HS0 := hid hs5; have HQX := hid hx; have HCL := hid hcl; have HLM := hid hlm
 have q5 := hx _ _ hs5.swap
 clear hs4 hs5 hx hcl c0 H3 HLT HM HRO hlm
 obtain ⟨i0, hi0, hz0, hz1, hz2⟩ := info_parts Tryz.info101
 go_upto_region 5 with fail
 go_cut [] (fun wx => ∃ k2 : RenV, k2.txv = k.txv ∧ Room M [] k2 (e.wput i (key, val)) ∧ S w0 wx (blk w.heap.size 101 [.int .i64 key, .int .i64 val] :: refP 47 109 b K (e.wput i (key, val)).last :: rtabP 3 b 2 Qs :: renO b bs k2 (e.wput i (key, val)) :: L))
 case first =>
  refine region_U (S := fun w' => w'.cell? ⟨blkOf bs i, 7, none⟩ = some (.slice ar ln cr) ∧ w'.cell? ⟨w.heap.size, 0, none⟩ = some (.int .i64 key) ∧ w'.cell? ⟨w.heap.size, 1, none⟩ = some (.int .i64 val)) (u := 10) (by kernel_rfl) (have q := HQX.out _ _ (HS0.out.drew.nth 1 rfl); ⟨q.1.1, q.2.1, q.2.2⟩) (fun hHeld => ?_)
  refine anyU_take (i := 0) (v := ?_) rfl (by kernel_rfl) (fun _ _ _ h => h) (Or.inl ⟨by rfl, ?_⟩) hHeld ?_
  rotate_left
  ·(intro w hSw; (try dsimp only at hSw); go_simp) <;> with_reducible rfl
  try simp only [putU]
  refine anyU_take (i := 1) (v := ?_) rfl (by kernel_rfl) (fun _ _ _ h => h) (Or.inl ⟨by rfl, ?_⟩) hHeld ?_
  rotate_left
  ·(intro w hSw; (try dsimp only at hSw); go_simp) <;> with_reducible rfl
  try simp only [putU]
  refine anyU_take (i := 2) (v := ?_) rfl (by kernel_rfl) (fun _ _ _ h => h) (Or.inl ⟨by rfl, ?_⟩) hHeld ?_
  rotate_left
  ·(intro w hSw; (try dsimp only at hSw); go_simp) <;> with_reducible rfl
  try simp only [putU]
  refine anyU_take (i := 3) (v := ?_) rfl (by kernel_rfl) (fun _ _ _ h => h) (Or.inl ⟨by rfl, ?_⟩) hHeld ?_
  rotate_left
  ·(intro w hSw; (try dsimp only at hSw); go_simp) <;> with_reducible rfl
  try simp only [putU]
  refine anyU_take (i := 4) (v := ?_) rfl (by kernel_rfl) (fun _ _ _ h => h) (Or.inl ⟨by rfl, ?_⟩) hHeld ?_
  rotate_left
  ·(intro w hSw; (try dsimp only at hSw); go_simp) <;> with_reducible rfl
  try simp only [putU]
  refine anyU_take (i := 5) (v := ?_) rfl (by kernel_rfl) (fun _ _ _ h => h) (Or.inl ⟨by rfl, ?_⟩) hHeld ?_
  rotate_left
  ·(intro w hSw; (try dsimp only at hSw); go_simp) <;> with_reducible rfl
  try simp only [putU]
  have HS := hid HS0.out.drew
  clear hHeld
  refine anyU_world (fun w => Hid (S w0 w _)) HS (fun w1 HS => ?_)
  clear HS0
  refine anyU_next (rs := [6]) (by kernel_rfl) (by simp) ?_
  refine NextU.cons rfl (fun K hK => ?_) ?_
  ·go_simp
   replace HS := hid (HS.out.alloc_slU (e := 101) (size := 2) (pcells [(key, val)]) 1 rfl (by unfold maxLen; omega))
   generalize w1.heap.size = b6 at HS ⊢
   refine act_any (fun w => Hid (S w0 w _)) HS (fun w2 HS => ?_)
   refine hK.out _ _ (fun _ => (have q := HQX.out _ _ (HS.out.nth 2 rfl); ⟨q.1.1, q.2.1, q.2.2⟩)) ?_
   clear hK K
   refine anyU_next (rs := [7]) (by kernel_rfl) (by simp) ?_
   refine NextU.cons rfl (fun K hK => ?_) ?_
   ·refine step_appU rfl (.tmp 52) (.tmp 54) 22 rfl 101 i0 _ 2 16 Tryz.underlying22 hi0 hz0 hz1 hz2 rfl (by decide) HS.out 1 (by rfl) (by rfl) _ 1 1 (pcells [(key, val)]) (by rfl) rfl (HS.out.news_slK 0 (by rfl)) (one_pairW _) HLM.out (by decide) ?_
    intro v7 w3 hs
    replace HS := hid hs
    clear hs
    obtain ⟨p7, c7, rfl, _, _, _⟩ := HS.out.sl_val
    refine hK.out _ _ (fun _ => (have q := HQX.out _ _ (HS.out.nth 2 rfl); ⟨q.1.1, q.2.1, q.2.2⟩)) ?_
    clear hK K
    try simp only [putU]
    refine anyU_pure (i := 8) (v := ?_) rfl (by kernel_rfl) (fun _ _ _ h => h) (Or.inl ⟨by rfl, ?_⟩) (fun _ => (have q := HQX.out _ _ (HS.out.nth 2 rfl); ⟨q.1.1, q.2.1, q.2.2⟩)) ?_
    rotate_left
    ·(intro w _; go_simp) <;> with_reducible rfl
    try simp only [putU]
    refine anyU_take (i := 9) (v := ?_) rfl (by kernel_rfl) (fun _ _ _ h => h) (Or.inl ⟨by rfl, ?_⟩) (have q := HQX.out _ _ (HS.out.nth 2 rfl); ⟨q.1.1, q.2.1, q.2.2⟩) ?_
    rotate_left
    ·(intro w hSw; (try dsimp only at hSw); go_simp) <;> with_reducible rfl
    try simp only [putU]
    refine anyU_next (rs := [10]) (by kernel_rfl) (by simp) ?_
    refine NextU.cons rfl (fun K hK => ?_) ?_
    ·have q1 := (HQX.out _ _ (HS.out.nth 2 rfl)).1.1
     have q2 := (HQX.out _ _ (HS.out.nth 2 rfl)).1.2
     go_simp
     refine hK.out _ _ (fun h => Bool.noConfusion (show true = false from h)) ?_
     clear hK K q1 q2
     refine anyU_done (by kernel_rfl) ?_ _
     have HZ := HS.out
     simp only [List.eraseIdx_cons_succ, List.eraseIdx_cons_zero] at HZ
     obtain ⟨k2, g1, g2, g3⟩ := HCL.out _ _ _ (HZ.conv (M := sl 101 2 (.slice p7 (ln + 1) c7) (ln + 1) (xs ++ pcells [(key, val)]) :: X :: sl 101 2 (.slice (some ⟨b6, 0, none⟩) 1 1) 1 (pcells [(key, val)]) :: refP 47 109 b K e.last :: rtabP 3 b 2 Qs :: L) (by simp only [all]; ac_rfl))
     have g4 := hid ((g3.conv (M := sl 101 2 (.slice (some ⟨b6, 0, none⟩) 1 1) 1 (pcells [(key, val)]) :: blk w.heap.size 101 [.int .i64 key, .int .i64 val] :: refP 47 109 b K e.last :: rtabP 3 b 2 Qs :: renO b bs k2 (e.wput i (key, val)) :: L) (by simp only [all]; ac_rfl)).tail)
     clear HZ g3 HS
     go_wp2_with fail
     go_meet
     exact ⟨k2, g1, g2, g4.out⟩
    exact NextU.nil
   exact NextU.nil
  exact NextU.nil
 case rest =>
 rename World => w4
 obtain ⟨k2, hk2, hRm2, hs5⟩ := hcut
 have H5 := hid hs5; have HRM2 := hid hRm2; have HK2 := hid hk2
 clear hs5 hRm2 hk2 HS0 HQX HCL HLM q5 HRM hi0 hz0 hz1 hz2 hlc hcr hln
 have hlv : ((e.wput i (key, val)).tx i).level = (e.tx i).level := Eng.upd_keep (·.level) (fun x => { x with writes := mput x.writes key val }) (fun _ => rfl) i
 have hln : (e.wput i (key, val)).txs.length = e.txs.length := Eng.upd_len ..
 have hop : (e.wput i (key, val)).open_ = e.open_ := Eng.many_keep Tx.alive _ fun _ => rfl
 have HHI2 : i < (e.wput i (key, val)).txs.length := by rw [hln]; exact HHI.out
 have c0 := (H5.out.tail.tail.tail.ren_txc HHI2).2.level
 rw [hlv] at c0
 have hsm2 : Same (e.wput i (key, val)).V (e.wput i (key, val)).last K ∧ SameT (e.wput i (key, val)).t Qs ∧ Room M [] k2 (e.wput i (key, val)) := ⟨HSM.out.1, HSM.out.2, HRM2.out⟩
 have HLN := hid hln; have HOP := hid hop; have HSM2 := hid hsm2
 clear hlv hln hop hsm2
 by_cases h2 : (e.tx i).level ≠ 2
 ·have hb2 : ((e.tx i).level != 2) = true := by simpa using h2
  have hpv : putsG (goesN n) e i (key, val) = e.wput i (key, val) := by unfold putsG; rw [if_neg hl, if_neg h2]
  have HF := hid hpv
  clear hl h2 hpv HHI2
  go_wp2_with fail
  refine bodyPost_ret (v := .tuple #[]) (by simp [results, Tryz.results60, go_sem]) rfl ?_
  exact ⟨rfl, by rw [HF.out]; exact S.ren_shut HSM2.out H5.out.tail⟩
 have h2 := Decidable.not_not.1 h2
 have hb2 : ((e.tx i).level != 2) = false := by simp [h2]
 have hpv : putsG (goesN n) e i (key, val) = putsL (goesN n) i key (List.range e.txs.length) (e.wput i (key, val)) := by unfold putsG; rw [if_neg hl, if_pos h2]
 have hok2 := HW.out.2 h2
 have HF := hid hpv; have HOK2 := hid hok2
 have hc4 := H5.out.tail.tail.tail.ren_c.2.txs
 rw [HK2.out, HV.out] at hc4
 have hrow : ∀ (W : World) (k1 : RenV) (e1 : Eng) (M' : List HProp), k1.txv = k.txv → e1.txs.length = e.txs.length → S w0 W (renO b bs k1 e1 :: M') → ∀ j, j < e.txs.length → W.cell? ⟨g, o + j, none⟩ = some (ptr bs j) := by
  intro W k1 e1 M' h1 h2 h3 j hj
  obtain ⟨a', cap', h4, _, _, h5⟩ := h3.ren_c.2.row
  obtain ⟨g', o', h6, h7⟩ := h5 j (by omega)
  rw [h1, HV.out, h6] at h4
  simp only [Value.slice.injEq, Option.some.injEq, Addr.mk.injEq] at h4
  obtain ⟨⟨rfl, rfl, _⟩, _, _⟩ := h4
  exact h7
 have HROW := hid hrow
 have hfew := HOK.out.few
 have HO2 : Hid ((e.wput i (key, val)).open_ ≤ n) := hid (by rw [HOP.out]; exact ho)
 have HTI2 := hid (HTI.out.wput i (key, val))
 clear hl h2 hpv hok2 hrow HHI2 HW HOP HSM HNW
 go_wp2_with fail
 go_loopw [68] (fun c wr => ∃ (m : Nat) (e1 : Eng) (k1 : RenV), m ≤ e.txs.length ∧ c = .int .i64 m ∧ Hid (k1.txv = k.txv) ∧ Hid (OkT N e1 (.ask i key ((List.range e.txs.length).drop m) :: U)) ∧ Hid (Times e1) ∧ Hid (Same e1.V e1.last K ∧ SameT e1.t Qs ∧ Room M [] k1 e1) ∧ Hid (e1.open_ ≤ n) ∧ Hid (e1.txs.length = e.txs.length) ∧ Hid (putsG (goesN n) e i (key, val) = putsL (goesN n) i key ((List.range e.txs.length).drop m) e1) ∧ S w0 wr (blk w.heap.size 101 [.int .i64 key, .int .i64 val] :: refP 47 109 b K e1.last :: rtabP 3 b 2 Qs :: renO b bs k1 e1 :: L)) (fun c _ => e.txs.length - (intOf c).toNat)
 case atStart => exact ⟨0, e.wput i (key, val), k2, Nat.zero_le _, rfl, HK2, HOK2, HTI2, HSM2, HO2, HLN, HF, H5.out⟩
 case round =>
  rename World => wr
  obtain ⟨m, e1, k1, hm, rfl, hk1, hok1, hti1, hsm1, ho1, hn1, hf1, hsr⟩ := hrel
  clear H5 HF HOK2 HO2 HLN HOK hc4 c0 HTI2 HTI HSM2 HRM2 HK2
  by_cases hlt : m < e.txs.length
  ·have hd : (List.range e.txs.length).drop m = m :: (List.range e.txs.length).drop (m + 1) := by rw [List.drop_eq_getElem_cons (by simpa using hlt)]; simp
   have hok2 := hok1.out
   have hf2 := hf1.out
   rw [hd] at hok2 hf2
   have hj : m < e1.txs.length := by rw [hn1.out]; exact hlt
   have hi1 : i < e1.txs.length := by rw [hn1.out]; exact HHI.out
   have cm := HROW.out wr k1 e1 _ hk1.out hn1.out hsr.tail.tail.tail m hlt
   unfold ptr at cm
   have hxm := (hsr.tail.tail.tail.ren_txc hj).2
   have c6 := hxm.reads
   obtain ⟨ra, rc, hrv, hrl1, hrl2, _⟩ := hxm.rs
   rw [hrv] at c6
   unfold maxLen at hrl2
   have hrd : ∀ W M', S w0 W (blk w.heap.size 101 [.int .i64 key, .int .i64 val] :: refP 47 109 b K e1.last :: rtabP 3 b 2 Qs :: renO b bs k1 e1 :: M') → ∀ j p, (e1.tx m).reads[j]? = some p → ∃ g o, ra = some ⟨g, o, none⟩ ∧ W.cell? ⟨g, o + j * 4, none⟩ = some (.int .i64 ((m : Int) + 1)) ∧ W.cell? ⟨g, o + j * 4 + 1, none⟩ = some (.int .i64 p.1) ∧ W.cell? ⟨g, o + j * 4 + 2, none⟩ = some (.bool false) ∧ W.cell? ⟨g, o + j * 4 + 3, none⟩ = some (.int .i64 p.2) := fun W M' h => ((h.tail.tail.tail.ren_txc hj).2).rs_at hrv
   have hstx := (hok1.out.at hj).state
   have hstr : ∀ W, S w0 W (blk w.heap.size 101 [.int .i64 key, .int .i64 val] :: refP 47 109 b K e1.last :: rtabP 3 b 2 Qs :: renO b bs k1 e1 :: L) → Calls Tryz.prog 52 #[.pointer (some ⟨blkOf bs m, 0, none⟩)] W fun r w' => r = .returned (.bool (e1.tx m).strict) ∧ W = w' := fun W h => rstrict_any _ _ _ W (h.tail.tail.tail.ren_txc hj).2.level (h.tail.tail.tail.ren_txc hj).2.state
   have halv : ∀ W, S w0 W (blk w.heap.size 101 [.int .i64 key, .int .i64 val] :: refP 47 109 b K e1.last :: rtabP 3 b 2 Qs :: renO b bs k1 e1 :: L) → Calls Tryz.prog 47 #[.pointer (some ⟨blkOf bs m, 0, none⟩)] W fun r w' => r = .returned (.bool (e1.tx m).alive) ∧ W = w' := fun W h => ralive_any _ _ W hstx.1 (h.tail.tail.tail.ren_txc hj).2.state
   have hbnd : ∀ j, j < e1.txs.length → (e1.tx j).aft.length + 1 ≤ 1000000000000 ∧ (e1.tx j).fore.length + 1 ≤ 1000000000000 := fun j hj => by have := hok1.out.fits _ (Eng.tx_mem hj); omega
   have hah : m ≠ i → ∀ W, S w0 W (blk w.heap.size 101 [.int .i64 key, .int .i64 val] :: refP 47 109 b K e1.last :: rtabP 3 b 2 Qs :: renO b bs k1 e1 :: L) → Calls Tryz.prog 53 #[.pointer (some ⟨blkOf bs m, 0, none⟩), .pointer (some ⟨blkOf bs i, 0, none⟩)] W fun r w' => ∃ k', (k'.txv = k1.txv ∧ ∀ m, (k'.v m).own = (k1.v m).own) ∧ r = .returned (.bool ((e1.note m i).bad m i)) ∧ S w0 w' (blk w.heap.size 101 [.int .i64 key, .int .i64 val] :: refP 47 109 b K (e1.note m i).last :: rtabP 3 b 2 Qs :: renO b bs k' (e1.note m i) :: L) := fun hmi W h => by
    have := rahead_any w0 W b bs k1 e1 m i (blk w.heap.size 101 [.int .i64 key, .int .i64 val] :: refP 47 109 b K e1.last :: rtabP 3 b 2 Qs :: L) (h.conv (by simp only [all]; ac_rfl)) hj hi1 hmi (hbnd m hj).1 (hbnd i hi1).2 (fun x hx => (hok1.out.txs x hx).refs)
    exact this.mono fun r w' ⟨k', h1, h2, h3⟩ => ⟨k', h1, h2, h3.conv (by simp only [all]; show _ = sep _ (sep (refP _ _ b K e1.last) _); ac_rfl)⟩
   have hnl := Eng.note_len e1 m i
   have hq16 : ∀ W M', S w0 W (blk w.heap.size 101 [.int .i64 key, .int .i64 val] :: refP 47 109 b K e1.last :: rtabP 3 b 2 Qs :: renO b bs k1 e1 :: M') → W.cell? ⟨blkOf bs m, 5, none⟩ = some (.int .i64 (e1.tx m).ended) ∧ W.cell? ⟨blkOf bs i, 4, none⟩ = some (.int .i64 (e1.tx i).begun) := fun W M' h => ⟨(h.tail.tail.tail.ren_txc hj).2.ended, (h.tail.tail.tail.ren_txc hi1).2.begun⟩
   have hqn : ∀ W k' M', S w0 W (blk w.heap.size 101 [.int .i64 key, .int .i64 val] :: refP 47 109 b K (e1.note m i).last :: rtabP 3 b 2 Qs :: renO b bs k' (e1.note m i) :: M') → W.cell? ⟨blkOf bs m, 5, none⟩ = some (.int .i64 (e1.tx m).ended) ∧ W.cell? ⟨blkOf bs i, 4, none⟩ = some (.int .i64 (e1.tx i).begun) := fun W k' M' h => by
    have h1 := (h.tail.tail.tail.ren_txc (i := m) (by rw [hnl]; exact hj)).2.ended
    have h2 := (h.tail.tail.tail.ren_txc (i := i) (by rw [hnl]; exact hi1)).2.begun
    rw [Eng.note_keep (·.ended) (fun _ _ => rfl) (fun _ _ => rfl)] at h1
    rw [Eng.note_keep (·.begun) (fun _ _ => rfl) (fun _ _ => rfl)] at h2
    exact ⟨h1, h2⟩
   have hsk : skips e1 i key m = (decide (m = i) || !(e1.tx m).strict || (decide ((e1.tx m).state = 2) && decide ((e1.tx m).ended < (e1.tx i).begun)) || !(e1.tx m).saw key) := rfl
   have hbne : m ≠ i → blkOf bs m ≠ blkOf bs i := fun h => rblk_ne hsr.tail.tail.tail.ren_c.2 hj hi1 h
   have hone : m ≠ i → ∀ W k' e' M', e'.txs.length = e1.txs.length → S w0 W (blk w.heap.size 101 [.int .i64 key, .int .i64 val] :: refP 47 109 b K e'.last :: rtabP 3 b 2 Qs :: renO b bs k' e' :: M') → (binOp .neq 90 (.pointer (some ⟨blkOf bs m, 0, none⟩)) (.pointer (some ⟨blkOf bs i, 0, none⟩))).run Tryz.prog W = .ok (.bool true) W := fun h W k' e' M' hl hS => neqR_other hS.tail.tail.tail (by omega) (by omega) (hbne h)
   have hal2 : (e1.tx m).strict = true → (e1.tx m).alive = false → (e1.tx m).state = 2 := by
    intro h1 h2
    simp only [Tx.strict, Bool.and_eq_true, decide_eq_true_eq] at h1
    simp only [Tx.alive, decide_eq_false_iff_not] at h2
    have := h1.2; omega
   have hal1 : (e1.tx m).alive = true → (e1.tx m).state ≠ 2 := by
    intro h2
    simp only [Tx.alive, decide_eq_true_eq] at h2
    omega
   have hap : (e1.tx m).state = 2 → (e1.tx m).ended ≠ (e1.tx i).begun := fun h => hti1.out.apart m i hj hi1 (by omega)
   have hsaw : (e1.tx m).saw key = (e1.tx m).reads.any fun r => decide (r.1 = key) := rfl
   have HR0 := hid hsr; have HRD := hid hrd; have HSTR0 := hid hstr; have HALV0 := hid halv; have HAH := hid hah; have HQ16 := hid hq16; have HQN := hid hqn; have HSK0 := hid hsk; have HONE := hid hone; have HAL2 := hid hal2; have HAL1 := hid hal1; have HAP := hid hap; have HSAW := hid hsaw; have HOKM := hid hok2; have HFM := hid hf2; have HJ := hid hj; have HI1 := hid hi1; have HNL := hid hnl
   clear hd hok2 hf2 hj hi1 hxm hrv hrd hstr halv hah hq16 hqn hsk hbne hone hal2 hal1 hap hsaw hsr hok1 hf1 hbnd hnl hstx
   generalize hrl : (e1.tx m).reads = l at *
   clear hrl
   go_wp2_with fail
   go_loopw [11, 77] (fun rd c wq => ∃ q : Nat, q ≤ l.length ∧ c = .int .i64 q ∧ rd = .bool ((l.take q).any fun r => decide (r.1 = key)) ∧ S w0 wq (blk w.heap.size 101 [.int .i64 key, .int .i64 val] :: refP 47 109 b K e1.last :: rtabP 3 b 2 Qs :: renO b bs k1 e1 :: L)) (fun _ c _ => l.length - (intOf c).toNat)
   case atStart => exact ⟨0, Nat.zero_le _, rfl, rfl, HR0.out⟩
   case round =>
    rename World => wq
    obtain ⟨q, hq, rfl, rfl, hsq⟩ := hrel
    clear HR0 cm c6
    by_cases hlt2 : q < l.length
    ·have hp : l[q]? = some l[q] := by simp [hlt2]
     generalize l[q] = p at hp
     obtain ⟨gr, og, rfl, d0, d1, d2, d3⟩ := HRD.out wq _ hsq q p hp
     have hsx := hsq.alloc #[.int .i64 ((m : Int) + 1), .int .i64 p.1, .bool false, .int .i64 p.2] 129
     have y1 := hsx.blk_cell 1 rfl
     have z0 := hsx.tail.blk_cell 0 rfl
     have hst := any_pair_step hp key
     have HX := hid hsx; have HST := hid hst
     generalize ((l.take q).any fun r => decide (r.1 = key)) = rd at *
     clear hsx hst hp hsq HSTR0 HALV0 HAH HQ16 HQN HSK0 HONE HAL2 HAL1 HAP HSAW HOKM HFM
     cases rd with
     | true =>
      have hn2 : ((l.take (q + 1)).any fun r => decide (r.1 = key)) = true := by rw [HST.out]; rfl
      have HN := hid hn2
      clear hn2 HST
      go_wp2_with fail
      go_roundw
      case rel => exact ⟨q + 1, by omega, by go_num, by rw [HN.out], HX.out.tail⟩
      case measure => simp [intOf]; omega
     | false =>
      by_cases hk : p.1 = key
      ·have hkb : (p.1 == key) = true := by simpa using hk
       have hn2 : ((l.take (q + 1)).any fun r => decide (r.1 = key)) = true := by rw [HST.out]; simp [hk]
       have HN := hid hn2
       clear hn2 HST hk
       go_wp2_with fail
       go_roundw
       case rel => exact ⟨q + 1, by omega, by go_num, by rw [HN.out], HX.out.tail⟩
       case measure => simp [intOf]; omega
      ·have hkb : (p.1 == key) = false := by simpa using hk
       have hn2 : ((l.take (q + 1)).any fun r => decide (r.1 = key)) = false := by rw [HST.out]; simp [hk]
       have HN := hid hn2
       clear hn2 HST hk
       go_wp2_with fail
       go_roundw
       case rel => exact ⟨q + 1, by omega, by go_num, by rw [HN.out], HX.out.tail⟩
       case measure => simp [intOf]; omega
    ·have hsk2 : ((l.take q).any fun r => decide (r.1 = key)) = (e1.tx m).saw key := by rw [HSAW.out, List.take_of_length_le (by omega)]
     rw [hsk2]
     have HR1 := hid hsq
     clear hsk2 hsq HRD HSAW
     go_upto_region 16 with fail
     go_cut [119] (fun s119 wx => (s119 = .bool false ∧ Hid (skips e1 i key m = true) ∧ S w0 wx (blk w.heap.size 101 [.int .i64 key, .int .i64 val] :: refP 47 109 b K e1.last :: rtabP 3 b 2 Qs :: renO b bs k1 e1 :: L)) ∨ (s119 = .bool ((e1.note m i).bad m i) ∧ Hid (skips e1 i key m = false) ∧ ∃ k', Hid (k'.txv = k1.txv ∧ ∀ m, (k'.v m).own = (k1.v m).own) ∧ S w0 wx (blk w.heap.size 101 [.int .i64 key, .int .i64 val] :: refP 47 109 b K (e1.note m i).last :: rtabP 3 b 2 Qs :: renO b bs k' (e1.note m i) :: L)))
     case first =>
      generalize hak : (e1.tx m).saw key = sk at *
      generalize hbk : (e1.tx m).strict = st at *
      generalize hck : (e1.tx m).alive = al at *
      generalize (e1.tx m).state = stj at *
      generalize (e1.tx m).ended = enj at *
      generalize (e1.tx i).begun = bgi at *
      clear hak hbk hck
      cases sk with
      | false =>
       have HSK : Hid (skips e1 i key m = true) := hid (by rw [HSK0.out]; simp)
       have HS0 := HR1
       clear HSK0 HR1 HAH HONE HAL2 HAL1 HAP
       refine wp_region_held_drew (S := fun w' => w'.cell? ⟨blkOf bs m, 5, none⟩ = some (.int .i64 enj) ∧ w'.cell? ⟨blkOf bs i, 4, none⟩ = some (.int .i64 bgi)) (by kernel_rfl) (HQ16.out _ _ HS0.out.drew) (fun hHeld => ?_)
       refine wpAnyH_take (i := 0) (v := ?_) rfl (by kernel_rfl) (by kernel_rfl) (by kernel_rfl) (fun _ _ _ h => h) (Or.inl ⟨by rfl, ?_⟩) hHeld ?_
       rotate_left
       ·(intro w hSw; (try dsimp only at hSw); go_simp) <;> with_reducible rfl
       try simp only [putU]
       refine wpAnyH_take (i := 1) (v := ?_) rfl (by kernel_rfl) (by kernel_rfl) (by kernel_rfl) (fun _ _ _ h => h) (Or.inl ⟨by rfl, ?_⟩) hHeld ?_
       rotate_left
       ·(intro w hSw; (try dsimp only at hSw); go_simp) <;> with_reducible rfl
       try simp only [putU]
       refine wpAnyH_take (i := 2) (v := undef) rfl (by kernel_rfl) (by kernel_rfl) (by kernel_rfl) (fun _ _ _ h => h) (Or.inr ⟨by rfl, rfl⟩) hHeld ?_
       try simp only [putU]
       refine wpAnyH_take (i := 3) (v := undef) rfl (by kernel_rfl) (by kernel_rfl) (by kernel_rfl) (fun _ _ _ h => h) (Or.inr ⟨by rfl, rfl⟩) hHeld ?_
       try simp only [putU]
       refine wpAnyH_take (i := 4) (v := undef) rfl (by kernel_rfl) (by kernel_rfl) (by kernel_rfl) (fun _ _ _ h => h) (Or.inr ⟨by rfl, rfl⟩) hHeld ?_
       try simp only [putU]
       refine wpAnyH_take (i := 5) (v := ?_) rfl (by kernel_rfl) (by kernel_rfl) (by kernel_rfl) (fun _ _ _ h => h) (Or.inl ⟨by rfl, ?_⟩) hHeld ?_
       rotate_left
       ·(intro w hSw; (try dsimp only at hSw); go_simp) <;> with_reducible rfl
       try simp only [putU]
       refine wpAnyH_take (i := 6) (v := ?_) rfl (by kernel_rfl) (by kernel_rfl) (by kernel_rfl) (fun _ _ _ h => h) (Or.inl ⟨by rfl, ?_⟩) hHeld ?_
       rotate_left
       ·(intro w hSw; (try dsimp only at hSw); go_simp) <;> with_reducible rfl
       try simp only [putU]
       refine wpAnyH_take (i := 7) (v := undef) rfl (by kernel_rfl) (by kernel_rfl) (by kernel_rfl) (fun _ _ _ h => h) (Or.inr ⟨by rfl, rfl⟩) hHeld ?_
       try simp only [putU]
       refine wpAnyH_take (i := 8) (v := undef) rfl (by kernel_rfl) (by kernel_rfl) (by kernel_rfl) (fun _ _ _ h => h) (Or.inr ⟨by rfl, rfl⟩) hHeld ?_
       try simp only [putU]
       refine wpAnyH_take (i := 9) (v := ?_) rfl (by kernel_rfl) (by kernel_rfl) (by kernel_rfl) (fun _ _ _ h => h) (Or.inl ⟨by rfl, ?_⟩) hHeld ?_
       rotate_left
       ·(intro w hSw; (try dsimp only at hSw); go_simp) <;> with_reducible rfl
       try simp only [putU]
       refine wpAnyH_take (i := 10) (v := ?_) rfl (by kernel_rfl) (by kernel_rfl) (by kernel_rfl) (fun _ _ _ h => h) (Or.inl ⟨by rfl, ?_⟩) hHeld ?_
       rotate_left
       ·(intro w hSw; (try dsimp only at hSw); go_simp) <;> with_reducible rfl
       try simp only [putU]
       refine wpAnyH_take (i := 11) (v := undef) rfl (by kernel_rfl) (by kernel_rfl) (by kernel_rfl) (fun _ _ _ h => h) (Or.inr ⟨by rfl, rfl⟩) hHeld ?_
       try simp only [putU]
       refine wpAnyH_take (i := 12) (v := undef) rfl (by kernel_rfl) (by kernel_rfl) (by kernel_rfl) (fun _ _ _ h => h) (Or.inr ⟨by rfl, rfl⟩) hHeld ?_
       try simp only [putU]
       refine wpAnyH_take (i := 13) (v := undef) rfl (by kernel_rfl) (by kernel_rfl) (by kernel_rfl) (fun _ _ _ h => h) (Or.inr ⟨by rfl, rfl⟩) hHeld ?_
       try simp only [putU]
       refine wpAnyH_take (i := 14) (v := undef) rfl (by kernel_rfl) (by kernel_rfl) (by kernel_rfl) (fun _ _ _ h => h) (Or.inr ⟨by rfl, rfl⟩) hHeld ?_
       try simp only [putU]
       refine wpAnyH_take (i := 15) (v := undef) rfl (by kernel_rfl) (by kernel_rfl) (by kernel_rfl) (fun _ _ _ h => h) (Or.inr ⟨by rfl, rfl⟩) hHeld ?_
       try simp only [putU]
       refine wpAnyH_take (i := 16) (v := undef) rfl (by kernel_rfl) (by kernel_rfl) (by kernel_rfl) (fun _ _ _ h => h) (Or.inr ⟨by rfl, rfl⟩) hHeld ?_
       try simp only [putU]
       refine wpAnyH_take (i := 17) (v := undef) rfl (by kernel_rfl) (by kernel_rfl) (by kernel_rfl) (fun _ _ _ h => h) (Or.inr ⟨by rfl, rfl⟩) hHeld ?_
       try simp only [putU]
       refine wpAnyH_take (i := 18) (v := undef) rfl (by kernel_rfl) (by kernel_rfl) (by kernel_rfl) (fun _ _ _ h => h) (Or.inr ⟨by rfl, rfl⟩) hHeld ?_
       try simp only [putU]
       refine wpAnyH_take (i := 19) (v := undef) rfl (by kernel_rfl) (by kernel_rfl) (by kernel_rfl) (fun _ _ _ h => h) (Or.inr ⟨by rfl, rfl⟩) hHeld ?_
       try simp only [putU]
       refine wpAnyH_take (i := 20) (v := undef) rfl (by kernel_rfl) (by kernel_rfl) (by kernel_rfl) (fun _ _ _ h => h) (Or.inr ⟨by rfl, rfl⟩) hHeld ?_
       try simp only [putU]
       refine wpAnyH_take (i := 21) (v := undef) rfl (by kernel_rfl) (by kernel_rfl) (by kernel_rfl) (fun _ _ _ h => h) (Or.inr ⟨by rfl, rfl⟩) hHeld ?_
       try simp only [putU]
       refine wpAnyH_take (i := 22) (v := undef) rfl (by kernel_rfl) (by kernel_rfl) (by kernel_rfl) (fun _ _ _ h => h) (Or.inr ⟨by rfl, rfl⟩) hHeld ?_
       try simp only [putU]
       refine wpAnyH_take (i := 23) (v := undef) rfl (by kernel_rfl) (by kernel_rfl) (by kernel_rfl) (fun _ _ _ h => h) (Or.inr ⟨by rfl, rfl⟩) hHeld ?_
       try simp only [putU]
       refine wpAnyH_take (i := 24) (v := ?_) rfl (by kernel_rfl) (by kernel_rfl) (by kernel_rfl) (fun _ _ _ h => h) (Or.inl ⟨by rfl, ?_⟩) hHeld ?_
       rotate_left
       ·(intro w hSw; (try dsimp only at hSw); go_simp) <;> with_reducible rfl
       try simp only [putU]
       refine wpAnyH_take (i := 25) (v := ?_) rfl (by kernel_rfl) (by kernel_rfl) (by kernel_rfl) (fun _ _ _ h => h) (Or.inl ⟨by rfl, ?_⟩) hHeld ?_
       rotate_left
       ·(intro w hSw; (try dsimp only at hSw); go_simp) <;> with_reducible rfl
       try simp only [putU]
       refine wpAnyH_take (i := 26) (v := undef) rfl (by kernel_rfl) (by kernel_rfl) (by kernel_rfl) (fun _ _ _ h => h) (Or.inr ⟨by rfl, rfl⟩) hHeld ?_
       try simp only [putU]
       refine wpAnyH_take (i := 27) (v := undef) rfl (by kernel_rfl) (by kernel_rfl) (by kernel_rfl) (fun _ _ _ h => h) (Or.inr ⟨by rfl, rfl⟩) hHeld ?_
       try simp only [putU]
       refine wpAnyH_take (i := 28) (v := undef) rfl (by kernel_rfl) (by kernel_rfl) (by kernel_rfl) (fun _ _ _ h => h) (Or.inr ⟨by rfl, rfl⟩) hHeld ?_
       try simp only [putU]
       refine wpAnyH_take (i := 29) (v := ?_) rfl (by kernel_rfl) (by kernel_rfl) (by kernel_rfl) (fun _ _ _ h => h) (Or.inl ⟨by rfl, ?_⟩) hHeld ?_
       rotate_left
       ·(intro w hSw; (try dsimp only at hSw); go_simp) <;> with_reducible rfl
       try simp only [putU]
       have HS := hid HS0.out.drew
       clear hHeld
       refine anyH_world (fun w => Hid (S w0 w _)) HS (fun w1 HS => ?_)
       clear HS0
       refine wpAnyH_done (by kernel_rfl) ?_ _
       go_wp2_with fail
       go_meet
       exact .inl ⟨rfl, HSK, HS.out⟩
      | true =>
       by_cases hmi : m = i
       ·subst hmi
        have HSK : Hid (skips e1 m key m = true) := hid (by rw [HSK0.out]; simp)
        have heqs := fun w => neqR_same w (blkOf bs m)
        have HS0 := HR1
        clear HSK0 HR1 HAH HONE HAL2 HAL1 HAP
        refine wp_region_held_drew (S := fun w' => w'.cell? ⟨blkOf bs m, 5, none⟩ = some (.int .i64 enj) ∧ w'.cell? ⟨blkOf bs m, 4, none⟩ = some (.int .i64 bgi)) (by kernel_rfl) (HQ16.out _ _ HS0.out.drew) (fun hHeld => ?_)
        refine wpAnyH_take (i := 0) (v := ?_) rfl (by kernel_rfl) (by kernel_rfl) (by kernel_rfl) (fun _ _ _ h => h) (Or.inl ⟨by rfl, ?_⟩) hHeld ?_
        rotate_left
        ·(intro w hSw; (try dsimp only at hSw); go_simp) <;> with_reducible rfl
        try simp only [putU]
        refine wpAnyH_take (i := 1) (v := ?_) rfl (by kernel_rfl) (by kernel_rfl) (by kernel_rfl) (fun _ _ _ h => h) (Or.inl ⟨by rfl, ?_⟩) hHeld ?_
        rotate_left
        ·(intro w hSw; (try dsimp only at hSw); go_simp) <;> with_reducible rfl
        try simp only [putU]
        refine wpAnyH_take (i := 2) (v := ?_) rfl (by kernel_rfl) (by kernel_rfl) (by kernel_rfl) (fun _ _ _ h => h) (Or.inl ⟨by rfl, ?_⟩) hHeld ?_
        rotate_left
        ·(intro w hSw; (try dsimp only at hSw); go_simp) <;> with_reducible rfl
        try simp only [putU]
        refine wpAnyH_take (i := 3) (v := ?_) rfl (by kernel_rfl) (by kernel_rfl) (by kernel_rfl) (fun _ _ _ h => h) (Or.inl ⟨by rfl, ?_⟩) hHeld ?_
        rotate_left
        ·(intro w hSw; (try dsimp only at hSw); go_simp) <;> with_reducible rfl
        try simp only [putU]
        refine wpAnyH_take (i := 4) (v := ?_) rfl (by kernel_rfl) (by kernel_rfl) (by kernel_rfl) (fun _ _ _ h => h) (Or.inl ⟨by rfl, ?_⟩) hHeld ?_
        rotate_left
        ·(intro w hSw; (try dsimp only at hSw); go_simp) <;> with_reducible rfl
        try simp only [putU]
        refine wpAnyH_take (i := 5) (v := ?_) rfl (by kernel_rfl) (by kernel_rfl) (by kernel_rfl) (fun _ _ _ h => h) (Or.inl ⟨by rfl, ?_⟩) hHeld ?_
        rotate_left
        ·(intro w hSw; (try dsimp only at hSw); go_simp) <;> with_reducible rfl
        try simp only [putU]
        refine wpAnyH_take (i := 6) (v := ?_) rfl (by kernel_rfl) (by kernel_rfl) (by kernel_rfl) (fun _ _ _ h => h) (Or.inl ⟨by rfl, ?_⟩) hHeld ?_
        rotate_left
        ·(intro w hSw; (try dsimp only at hSw); go_simp) <;> with_reducible rfl
        try simp only [putU]
        refine wpAnyH_take (i := 7) (v := undef) rfl (by kernel_rfl) (by kernel_rfl) (by kernel_rfl) (fun _ _ _ h => h) (Or.inr ⟨by rfl, rfl⟩) hHeld ?_
        try simp only [putU]
        refine wpAnyH_take (i := 8) (v := undef) rfl (by kernel_rfl) (by kernel_rfl) (by kernel_rfl) (fun _ _ _ h => h) (Or.inr ⟨by rfl, rfl⟩) hHeld ?_
        try simp only [putU]
        refine wpAnyH_take (i := 9) (v := ?_) rfl (by kernel_rfl) (by kernel_rfl) (by kernel_rfl) (fun _ _ _ h => h) (Or.inl ⟨by rfl, ?_⟩) hHeld ?_
        rotate_left
        ·(intro w hSw; (try dsimp only at hSw); go_simp) <;> with_reducible rfl
        try simp only [putU]
        refine wpAnyH_take (i := 10) (v := ?_) rfl (by kernel_rfl) (by kernel_rfl) (by kernel_rfl) (fun _ _ _ h => h) (Or.inl ⟨by rfl, ?_⟩) hHeld ?_
        rotate_left
        ·(intro w hSw; (try dsimp only at hSw); go_simp) <;> with_reducible rfl
        try simp only [putU]
        refine wpAnyH_take (i := 11) (v := undef) rfl (by kernel_rfl) (by kernel_rfl) (by kernel_rfl) (fun _ _ _ h => h) (Or.inr ⟨by rfl, rfl⟩) hHeld ?_
        try simp only [putU]
        refine wpAnyH_take (i := 12) (v := undef) rfl (by kernel_rfl) (by kernel_rfl) (by kernel_rfl) (fun _ _ _ h => h) (Or.inr ⟨by rfl, rfl⟩) hHeld ?_
        try simp only [putU]
        refine wpAnyH_take (i := 13) (v := undef) rfl (by kernel_rfl) (by kernel_rfl) (by kernel_rfl) (fun _ _ _ h => h) (Or.inr ⟨by rfl, rfl⟩) hHeld ?_
        try simp only [putU]
        refine wpAnyH_take (i := 14) (v := undef) rfl (by kernel_rfl) (by kernel_rfl) (by kernel_rfl) (fun _ _ _ h => h) (Or.inr ⟨by rfl, rfl⟩) hHeld ?_
        try simp only [putU]
        refine wpAnyH_take (i := 15) (v := undef) rfl (by kernel_rfl) (by kernel_rfl) (by kernel_rfl) (fun _ _ _ h => h) (Or.inr ⟨by rfl, rfl⟩) hHeld ?_
        try simp only [putU]
        refine wpAnyH_take (i := 16) (v := undef) rfl (by kernel_rfl) (by kernel_rfl) (by kernel_rfl) (fun _ _ _ h => h) (Or.inr ⟨by rfl, rfl⟩) hHeld ?_
        try simp only [putU]
        refine wpAnyH_take (i := 17) (v := undef) rfl (by kernel_rfl) (by kernel_rfl) (by kernel_rfl) (fun _ _ _ h => h) (Or.inr ⟨by rfl, rfl⟩) hHeld ?_
        try simp only [putU]
        refine wpAnyH_take (i := 18) (v := undef) rfl (by kernel_rfl) (by kernel_rfl) (by kernel_rfl) (fun _ _ _ h => h) (Or.inr ⟨by rfl, rfl⟩) hHeld ?_
        try simp only [putU]
        refine wpAnyH_take (i := 19) (v := undef) rfl (by kernel_rfl) (by kernel_rfl) (by kernel_rfl) (fun _ _ _ h => h) (Or.inr ⟨by rfl, rfl⟩) hHeld ?_
        try simp only [putU]
        refine wpAnyH_take (i := 20) (v := undef) rfl (by kernel_rfl) (by kernel_rfl) (by kernel_rfl) (fun _ _ _ h => h) (Or.inr ⟨by rfl, rfl⟩) hHeld ?_
        try simp only [putU]
        refine wpAnyH_take (i := 21) (v := undef) rfl (by kernel_rfl) (by kernel_rfl) (by kernel_rfl) (fun _ _ _ h => h) (Or.inr ⟨by rfl, rfl⟩) hHeld ?_
        try simp only [putU]
        refine wpAnyH_take (i := 22) (v := undef) rfl (by kernel_rfl) (by kernel_rfl) (by kernel_rfl) (fun _ _ _ h => h) (Or.inr ⟨by rfl, rfl⟩) hHeld ?_
        try simp only [putU]
        refine wpAnyH_take (i := 23) (v := undef) rfl (by kernel_rfl) (by kernel_rfl) (by kernel_rfl) (fun _ _ _ h => h) (Or.inr ⟨by rfl, rfl⟩) hHeld ?_
        try simp only [putU]
        refine wpAnyH_take (i := 24) (v := ?_) rfl (by kernel_rfl) (by kernel_rfl) (by kernel_rfl) (fun _ _ _ h => h) (Or.inl ⟨by rfl, ?_⟩) hHeld ?_
        rotate_left
        ·(intro w hSw; (try dsimp only at hSw); go_simp) <;> with_reducible rfl
        try simp only [putU]
        refine wpAnyH_take (i := 25) (v := ?_) rfl (by kernel_rfl) (by kernel_rfl) (by kernel_rfl) (fun _ _ _ h => h) (Or.inl ⟨by rfl, ?_⟩) hHeld ?_
        rotate_left
        ·(intro w hSw; (try dsimp only at hSw); go_simp) <;> with_reducible rfl
        try simp only [putU]
        refine wpAnyH_take (i := 26) (v := undef) rfl (by kernel_rfl) (by kernel_rfl) (by kernel_rfl) (fun _ _ _ h => h) (Or.inr ⟨by rfl, rfl⟩) hHeld ?_
        try simp only [putU]
        refine wpAnyH_take (i := 27) (v := undef) rfl (by kernel_rfl) (by kernel_rfl) (by kernel_rfl) (fun _ _ _ h => h) (Or.inr ⟨by rfl, rfl⟩) hHeld ?_
        try simp only [putU]
        refine wpAnyH_take (i := 28) (v := undef) rfl (by kernel_rfl) (by kernel_rfl) (by kernel_rfl) (fun _ _ _ h => h) (Or.inr ⟨by rfl, rfl⟩) hHeld ?_
        try simp only [putU]
        refine wpAnyH_take (i := 29) (v := ?_) rfl (by kernel_rfl) (by kernel_rfl) (by kernel_rfl) (fun _ _ _ h => h) (Or.inl ⟨by rfl, ?_⟩) hHeld ?_
        rotate_left
        ·(intro w hSw; (try dsimp only at hSw); go_simp) <;> with_reducible rfl
        try simp only [putU]
        have HS := hid HS0.out.drew
        clear hHeld
        refine anyH_world (fun w => Hid (S w0 w _)) HS (fun w1 HS => ?_)
        clear HS0
        refine wpAnyH_done (by kernel_rfl) ?_ _
        go_wp2_with fail
        go_meet
        exact .inl ⟨rfl, HSK, HS.out⟩
       have hone := HONE.out hmi
       have HA2 := hid (HAH.out hmi)
       have hq17 := fun W M' h => And.intro (hone W k1 e1 M' rfl h) (HQ16.out W M' h)
       have hqn2 := fun W k' M' h => And.intro (hone W k' (e1.note m i) M' HNL.out h) (HQN.out W k' M' h)
       have HQ17 := hid hq17; have HQN2 := hid hqn2
       have HS0 := HR1
       clear hone hq17 hqn2 HQ16 HQN HONE HAH HR1
       cases st with
       | false =>
        have HSK : Hid (skips e1 i key m = true) := hid (by rw [HSK0.out]; simp)
        clear HSK0 HA2 hmi HAL2 HAL1 HAP
        refine wp_region_held_drew (S := fun w' => (binOp .neq 90 (.pointer (some ⟨blkOf bs m, 0, none⟩)) (.pointer (some ⟨blkOf bs i, 0, none⟩))).run Tryz.prog w' = .ok (.bool true) w' ∧ w'.cell? ⟨blkOf bs m, 5, none⟩ = some (.int .i64 enj) ∧ w'.cell? ⟨blkOf bs i, 4, none⟩ = some (.int .i64 bgi)) (by kernel_rfl) (HQ17.out _ _ HS0.out.drew) (fun hHeld => ?_)
        refine wpAnyH_take (i := 0) (v := ?_) rfl (by kernel_rfl) (by kernel_rfl) (by kernel_rfl) (fun _ _ _ h => h) (Or.inl ⟨by rfl, ?_⟩) hHeld ?_
        rotate_left
        ·(intro w hSw; (try dsimp only at hSw); go_simp) <;> with_reducible rfl
        try simp only [putU]
        refine wpAnyH_take (i := 1) (v := ?_) rfl (by kernel_rfl) (by kernel_rfl) (by kernel_rfl) (fun _ _ _ h => h) (Or.inl ⟨by rfl, ?_⟩) hHeld ?_
        rotate_left
        ·(intro w hSw; (try dsimp only at hSw); go_simp) <;> with_reducible rfl
        try simp only [putU]
        refine wpAnyH_take (i := 2) (v := ?_) rfl (by kernel_rfl) (by kernel_rfl) (by kernel_rfl) (fun _ _ _ h => h) (Or.inl ⟨by rfl, ?_⟩) hHeld ?_
        rotate_left
        ·(intro w hSw; (try dsimp only at hSw); go_simp) <;> with_reducible rfl
        try simp only [putU]
        refine wpAnyH_take (i := 3) (v := ?_) rfl (by kernel_rfl) (by kernel_rfl) (by kernel_rfl) (fun _ _ _ h => h) (Or.inl ⟨by rfl, ?_⟩) hHeld ?_
        rotate_left
        ·(intro w hSw; (try dsimp only at hSw); go_simp) <;> with_reducible rfl
        try simp only [putU]
        refine wpAnyH_take (i := 4) (v := ?_) rfl (by kernel_rfl) (by kernel_rfl) (by kernel_rfl) (fun _ _ _ h => h) (Or.inl ⟨by rfl, ?_⟩) hHeld ?_
        rotate_left
        ·(intro w hSw; (try dsimp only at hSw); go_simp) <;> with_reducible rfl
        try simp only [putU]
        refine wpAnyH_take (i := 5) (v := ?_) rfl (by kernel_rfl) (by kernel_rfl) (by kernel_rfl) (fun _ _ _ h => h) (Or.inl ⟨by rfl, ?_⟩) hHeld ?_
        rotate_left
        ·(intro w hSw; (try dsimp only at hSw); go_simp) <;> with_reducible rfl
        try simp only [putU]
        refine wpAnyH_take (i := 6) (v := ?_) rfl (by kernel_rfl) (by kernel_rfl) (by kernel_rfl) (fun _ _ _ h => h) (Or.inl ⟨by rfl, ?_⟩) hHeld ?_
        rotate_left
        ·(intro w hSw; (try dsimp only at hSw); go_simp) <;> with_reducible rfl
        try simp only [putU]
        refine wpAnyH_take (i := 7) (v := ?_) rfl (by kernel_rfl) (by kernel_rfl) (by kernel_rfl) (fun _ _ _ h => h) (Or.inl ⟨by rfl, ?_⟩) hHeld ?_
        rotate_left
        ·(intro w hSw; (try dsimp only at hSw); go_simp) <;> with_reducible rfl
        try simp only [putU]
        have HS := hid HS0.out.drew
        clear hHeld
        refine anyH_world (fun w => Hid (S w0 w _)) HS (fun w1 HS => ?_)
        clear HS0
        refine wpAnyH_ready (rs := [8]) (by kernel_rfl) (by simp) ?_
        refine AllReadyH.cons rfl (fun K hK => ?_) ?_
        ·go_simp
         go_wp2_with (go_at_call 52; with_reducible refine (HSTR0.out _ HS.out).mono ?_; rintro r w' ⟨rfl, rfl⟩)
         refine hK.out _ _ (HQ17.out _ _ HS.out) (fun _ => ?_)
         clear hK K
         refine wpAnyH_take (i := 9) (v := ?_) rfl (by kernel_rfl) (by kernel_rfl) (by kernel_rfl) (fun _ _ _ h => h) (Or.inl ⟨by rfl, ?_⟩) (HQ17.out _ _ HS.out) ?_
         rotate_left
         ·(intro w hSw; (try dsimp only at hSw); go_simp) <;> with_reducible rfl
         try simp only [putU]
         refine wpAnyH_take (i := 10) (v := ?_) rfl (by kernel_rfl) (by kernel_rfl) (by kernel_rfl) (fun _ _ _ h => h) (Or.inl ⟨by rfl, ?_⟩) (HQ17.out _ _ HS.out) ?_
         rotate_left
         ·(intro w hSw; (try dsimp only at hSw); go_simp) <;> with_reducible rfl
         try simp only [putU]
         refine wpAnyH_take (i := 11) (v := undef) rfl (by kernel_rfl) (by kernel_rfl) (by kernel_rfl) (fun _ _ _ h => h) (Or.inr ⟨by rfl, rfl⟩) (HQ17.out _ _ HS.out) ?_
         try simp only [putU]
         refine wpAnyH_take (i := 12) (v := undef) rfl (by kernel_rfl) (by kernel_rfl) (by kernel_rfl) (fun _ _ _ h => h) (Or.inr ⟨by rfl, rfl⟩) (HQ17.out _ _ HS.out) ?_
         try simp only [putU]
         refine wpAnyH_take (i := 13) (v := undef) rfl (by kernel_rfl) (by kernel_rfl) (by kernel_rfl) (fun _ _ _ h => h) (Or.inr ⟨by rfl, rfl⟩) (HQ17.out _ _ HS.out) ?_
         try simp only [putU]
         refine wpAnyH_take (i := 14) (v := undef) rfl (by kernel_rfl) (by kernel_rfl) (by kernel_rfl) (fun _ _ _ h => h) (Or.inr ⟨by rfl, rfl⟩) (HQ17.out _ _ HS.out) ?_
         try simp only [putU]
         refine wpAnyH_take (i := 15) (v := undef) rfl (by kernel_rfl) (by kernel_rfl) (by kernel_rfl) (fun _ _ _ h => h) (Or.inr ⟨by rfl, rfl⟩) (HQ17.out _ _ HS.out) ?_
         try simp only [putU]
         refine wpAnyH_take (i := 16) (v := undef) rfl (by kernel_rfl) (by kernel_rfl) (by kernel_rfl) (fun _ _ _ h => h) (Or.inr ⟨by rfl, rfl⟩) (HQ17.out _ _ HS.out) ?_
         try simp only [putU]
         refine wpAnyH_take (i := 17) (v := undef) rfl (by kernel_rfl) (by kernel_rfl) (by kernel_rfl) (fun _ _ _ h => h) (Or.inr ⟨by rfl, rfl⟩) (HQ17.out _ _ HS.out) ?_
         try simp only [putU]
         refine wpAnyH_take (i := 18) (v := undef) rfl (by kernel_rfl) (by kernel_rfl) (by kernel_rfl) (fun _ _ _ h => h) (Or.inr ⟨by rfl, rfl⟩) (HQ17.out _ _ HS.out) ?_
         try simp only [putU]
         refine wpAnyH_take (i := 19) (v := undef) rfl (by kernel_rfl) (by kernel_rfl) (by kernel_rfl) (fun _ _ _ h => h) (Or.inr ⟨by rfl, rfl⟩) (HQ17.out _ _ HS.out) ?_
         try simp only [putU]
         refine wpAnyH_take (i := 20) (v := undef) rfl (by kernel_rfl) (by kernel_rfl) (by kernel_rfl) (fun _ _ _ h => h) (Or.inr ⟨by rfl, rfl⟩) (HQ17.out _ _ HS.out) ?_
         try simp only [putU]
         refine wpAnyH_take (i := 21) (v := undef) rfl (by kernel_rfl) (by kernel_rfl) (by kernel_rfl) (fun _ _ _ h => h) (Or.inr ⟨by rfl, rfl⟩) (HQ17.out _ _ HS.out) ?_
         try simp only [putU]
         refine wpAnyH_take (i := 22) (v := undef) rfl (by kernel_rfl) (by kernel_rfl) (by kernel_rfl) (fun _ _ _ h => h) (Or.inr ⟨by rfl, rfl⟩) (HQ17.out _ _ HS.out) ?_
         try simp only [putU]
         refine wpAnyH_take (i := 23) (v := undef) rfl (by kernel_rfl) (by kernel_rfl) (by kernel_rfl) (fun _ _ _ h => h) (Or.inr ⟨by rfl, rfl⟩) (HQ17.out _ _ HS.out) ?_
         try simp only [putU]
         refine wpAnyH_take (i := 24) (v := ?_) rfl (by kernel_rfl) (by kernel_rfl) (by kernel_rfl) (fun _ _ _ h => h) (Or.inl ⟨by rfl, ?_⟩) (HQ17.out _ _ HS.out) ?_
         rotate_left
         ·(intro w hSw; (try dsimp only at hSw); go_simp) <;> with_reducible rfl
         try simp only [putU]
         refine wpAnyH_take (i := 25) (v := ?_) rfl (by kernel_rfl) (by kernel_rfl) (by kernel_rfl) (fun _ _ _ h => h) (Or.inl ⟨by rfl, ?_⟩) (HQ17.out _ _ HS.out) ?_
         rotate_left
         ·(intro w hSw; (try dsimp only at hSw); go_simp) <;> with_reducible rfl
         try simp only [putU]
         refine wpAnyH_take (i := 26) (v := undef) rfl (by kernel_rfl) (by kernel_rfl) (by kernel_rfl) (fun _ _ _ h => h) (Or.inr ⟨by rfl, rfl⟩) (HQ17.out _ _ HS.out) ?_
         try simp only [putU]
         refine wpAnyH_take (i := 27) (v := undef) rfl (by kernel_rfl) (by kernel_rfl) (by kernel_rfl) (fun _ _ _ h => h) (Or.inr ⟨by rfl, rfl⟩) (HQ17.out _ _ HS.out) ?_
         try simp only [putU]
         refine wpAnyH_take (i := 28) (v := undef) rfl (by kernel_rfl) (by kernel_rfl) (by kernel_rfl) (fun _ _ _ h => h) (Or.inr ⟨by rfl, rfl⟩) (HQ17.out _ _ HS.out) ?_
         try simp only [putU]
         refine wpAnyH_take (i := 29) (v := ?_) rfl (by kernel_rfl) (by kernel_rfl) (by kernel_rfl) (fun _ _ _ h => h) (Or.inl ⟨by rfl, ?_⟩) (HQ17.out _ _ HS.out) ?_
         rotate_left
         ·(intro w hSw; (try dsimp only at hSw); go_simp) <;> with_reducible rfl
         try simp only [putU]
         refine wpAnyH_done (by kernel_rfl) ?_ _
         go_wp2_with fail
         go_meet
         exact .inl ⟨rfl, HSK, HS.out⟩
        exact AllReadyH.nil
       | true =>
        cases al with
        | true =>
         have HSK : Hid (skips e1 i key m = false) := hid (by have := HAL1.out rfl; rw [HSK0.out]; simp [hmi, this])
         clear HSK0 hmi HAL2 HAL1 HAP
         refine wp_region_held_drew (S := fun w' => (binOp .neq 90 (.pointer (some ⟨blkOf bs m, 0, none⟩)) (.pointer (some ⟨blkOf bs i, 0, none⟩))).run Tryz.prog w' = .ok (.bool true) w' ∧ w'.cell? ⟨blkOf bs m, 5, none⟩ = some (.int .i64 enj) ∧ w'.cell? ⟨blkOf bs i, 4, none⟩ = some (.int .i64 bgi)) (by kernel_rfl) (HQ17.out _ _ HS0.out.drew) (fun hHeld => ?_)
         refine wpAnyH_take (i := 0) (v := ?_) rfl (by kernel_rfl) (by kernel_rfl) (by kernel_rfl) (fun _ _ _ h => h) (Or.inl ⟨by rfl, ?_⟩) hHeld ?_
         rotate_left
         ·(intro w hSw; (try dsimp only at hSw); go_simp) <;> with_reducible rfl
         try simp only [putU]
         refine wpAnyH_take (i := 1) (v := ?_) rfl (by kernel_rfl) (by kernel_rfl) (by kernel_rfl) (fun _ _ _ h => h) (Or.inl ⟨by rfl, ?_⟩) hHeld ?_
         rotate_left
         ·(intro w hSw; (try dsimp only at hSw); go_simp) <;> with_reducible rfl
         try simp only [putU]
         refine wpAnyH_take (i := 2) (v := ?_) rfl (by kernel_rfl) (by kernel_rfl) (by kernel_rfl) (fun _ _ _ h => h) (Or.inl ⟨by rfl, ?_⟩) hHeld ?_
         rotate_left
         ·(intro w hSw; (try dsimp only at hSw); go_simp) <;> with_reducible rfl
         try simp only [putU]
         refine wpAnyH_take (i := 3) (v := ?_) rfl (by kernel_rfl) (by kernel_rfl) (by kernel_rfl) (fun _ _ _ h => h) (Or.inl ⟨by rfl, ?_⟩) hHeld ?_
         rotate_left
         ·(intro w hSw; (try dsimp only at hSw); go_simp) <;> with_reducible rfl
         try simp only [putU]
         refine wpAnyH_take (i := 4) (v := ?_) rfl (by kernel_rfl) (by kernel_rfl) (by kernel_rfl) (fun _ _ _ h => h) (Or.inl ⟨by rfl, ?_⟩) hHeld ?_
         rotate_left
         ·(intro w hSw; (try dsimp only at hSw); go_simp) <;> with_reducible rfl
         try simp only [putU]
         refine wpAnyH_take (i := 5) (v := ?_) rfl (by kernel_rfl) (by kernel_rfl) (by kernel_rfl) (fun _ _ _ h => h) (Or.inl ⟨by rfl, ?_⟩) hHeld ?_
         rotate_left
         ·(intro w hSw; (try dsimp only at hSw); go_simp) <;> with_reducible rfl
         try simp only [putU]
         refine wpAnyH_take (i := 6) (v := ?_) rfl (by kernel_rfl) (by kernel_rfl) (by kernel_rfl) (fun _ _ _ h => h) (Or.inl ⟨by rfl, ?_⟩) hHeld ?_
         rotate_left
         ·(intro w hSw; (try dsimp only at hSw); go_simp) <;> with_reducible rfl
         try simp only [putU]
         refine wpAnyH_take (i := 7) (v := ?_) rfl (by kernel_rfl) (by kernel_rfl) (by kernel_rfl) (fun _ _ _ h => h) (Or.inl ⟨by rfl, ?_⟩) hHeld ?_
         rotate_left
         ·(intro w hSw; (try dsimp only at hSw); go_simp) <;> with_reducible rfl
         try simp only [putU]
         have HS := hid HS0.out.drew
         clear hHeld
         refine anyH_world (fun w => Hid (S w0 w _)) HS (fun w1 HS => ?_)
         clear HS0
         refine wpAnyH_ready (rs := [8]) (by kernel_rfl) (by simp) ?_
         refine AllReadyH.cons rfl (fun K hK => ?_) ?_
         ·go_simp
          go_wp2_with (go_at_call 52; with_reducible refine (HSTR0.out _ HS.out).mono ?_; rintro r w' ⟨rfl, rfl⟩)
          refine hK.out _ _ (HQ17.out _ _ HS.out) (fun _ => ?_)
          clear hK K
          refine wpAnyH_take (i := 9) (v := ?_) rfl (by kernel_rfl) (by kernel_rfl) (by kernel_rfl) (fun _ _ _ h => h) (Or.inl ⟨by rfl, ?_⟩) (HQ17.out _ _ HS.out) ?_
          rotate_left
          ·(intro w hSw; (try dsimp only at hSw); go_simp) <;> with_reducible rfl
          try simp only [putU]
          refine wpAnyH_take (i := 10) (v := ?_) rfl (by kernel_rfl) (by kernel_rfl) (by kernel_rfl) (fun _ _ _ h => h) (Or.inl ⟨by rfl, ?_⟩) (HQ17.out _ _ HS.out) ?_
          rotate_left
          ·(intro w hSw; (try dsimp only at hSw); go_simp) <;> with_reducible rfl
          try simp only [putU]
          refine wpAnyH_take (i := 11) (v := ?_) rfl (by kernel_rfl) (by kernel_rfl) (by kernel_rfl) (fun _ _ _ h => h) (Or.inl ⟨by rfl, ?_⟩) (HQ17.out _ _ HS.out) ?_
          rotate_left
          ·(intro w hSw; (try dsimp only at hSw); go_simp) <;> with_reducible rfl
          try simp only [putU]
          refine wpAnyH_ready (rs := [12]) (by kernel_rfl) (by simp) ?_
          refine AllReadyH.cons rfl (fun K hK => ?_) ?_
          ·go_simp
           go_wp2_with (go_at_call 47; with_reducible refine (HALV0.out _ HS.out).mono ?_; rintro r w' ⟨rfl, rfl⟩)
           refine hK.out _ _ (HQ17.out _ _ HS.out) (fun _ => ?_)
           clear hK K
           refine wpAnyH_take (i := 13) (v := ?_) rfl (by kernel_rfl) (by kernel_rfl) (by kernel_rfl) (fun _ _ _ h => h) (Or.inl ⟨by rfl, ?_⟩) (HQ17.out _ _ HS.out) ?_
           rotate_left
           ·(intro w hSw; (try dsimp only at hSw); go_simp) <;> with_reducible rfl
           try simp only [putU]
           refine wpAnyH_take (i := 14) (v := undef) rfl (by kernel_rfl) (by kernel_rfl) (by kernel_rfl) (fun _ _ _ h => h) (Or.inr ⟨by rfl, rfl⟩) (HQ17.out _ _ HS.out) ?_
           try simp only [putU]
           refine wpAnyH_take (i := 15) (v := undef) rfl (by kernel_rfl) (by kernel_rfl) (by kernel_rfl) (fun _ _ _ h => h) (Or.inr ⟨by rfl, rfl⟩) (HQ17.out _ _ HS.out) ?_
           try simp only [putU]
           refine wpAnyH_take (i := 16) (v := undef) rfl (by kernel_rfl) (by kernel_rfl) (by kernel_rfl) (fun _ _ _ h => h) (Or.inr ⟨by rfl, rfl⟩) (HQ17.out _ _ HS.out) ?_
           try simp only [putU]
           refine wpAnyH_take (i := 17) (v := undef) rfl (by kernel_rfl) (by kernel_rfl) (by kernel_rfl) (fun _ _ _ h => h) (Or.inr ⟨by rfl, rfl⟩) (HQ17.out _ _ HS.out) ?_
           try simp only [putU]
           refine wpAnyH_take (i := 18) (v := undef) rfl (by kernel_rfl) (by kernel_rfl) (by kernel_rfl) (fun _ _ _ h => h) (Or.inr ⟨by rfl, rfl⟩) (HQ17.out _ _ HS.out) ?_
           try simp only [putU]
           refine wpAnyH_take (i := 19) (v := undef) rfl (by kernel_rfl) (by kernel_rfl) (by kernel_rfl) (fun _ _ _ h => h) (Or.inr ⟨by rfl, rfl⟩) (HQ17.out _ _ HS.out) ?_
           try simp only [putU]
           refine wpAnyH_take (i := 20) (v := undef) rfl (by kernel_rfl) (by kernel_rfl) (by kernel_rfl) (fun _ _ _ h => h) (Or.inr ⟨by rfl, rfl⟩) (HQ17.out _ _ HS.out) ?_
           try simp only [putU]
           refine wpAnyH_take (i := 21) (v := undef) rfl (by kernel_rfl) (by kernel_rfl) (by kernel_rfl) (fun _ _ _ h => h) (Or.inr ⟨by rfl, rfl⟩) (HQ17.out _ _ HS.out) ?_
           try simp only [putU]
           refine wpAnyH_take (i := 22) (v := undef) rfl (by kernel_rfl) (by kernel_rfl) (by kernel_rfl) (fun _ _ _ h => h) (Or.inr ⟨by rfl, rfl⟩) (HQ17.out _ _ HS.out) ?_
           try simp only [putU]
           refine wpAnyH_take (i := 23) (v := ?_) rfl (by kernel_rfl) (by kernel_rfl) (by kernel_rfl) (fun _ _ _ h => h) (Or.inl ⟨by rfl, ?_⟩) (HQ17.out _ _ HS.out) ?_
           rotate_left
           ·(intro w hSw; (try dsimp only at hSw); go_simp) <;> with_reducible rfl
           try simp only [putU]
           refine wpAnyH_take (i := 24) (v := ?_) rfl (by kernel_rfl) (by kernel_rfl) (by kernel_rfl) (fun _ _ _ h => h) (Or.inl ⟨by rfl, ?_⟩) (HQ17.out _ _ HS.out) ?_
           rotate_left
           ·(intro w hSw; (try dsimp only at hSw); go_simp) <;> with_reducible rfl
           try simp only [putU]
           refine wpAnyH_take (i := 25) (v := ?_) rfl (by kernel_rfl) (by kernel_rfl) (by kernel_rfl) (fun _ _ _ h => h) (Or.inl ⟨by rfl, ?_⟩) (HQ17.out _ _ HS.out) ?_
           rotate_left
           ·(intro w hSw; (try dsimp only at hSw); go_simp) <;> with_reducible rfl
           try simp only [putU]
           refine wpAnyH_take (i := 26) (v := ?_) rfl (by kernel_rfl) (by kernel_rfl) (by kernel_rfl) (fun _ _ _ h => h) (Or.inl ⟨by rfl, ?_⟩) (HQ17.out _ _ HS.out) ?_
           rotate_left
           ·(intro w hSw; (try dsimp only at hSw); go_simp) <;> with_reducible rfl
           try simp only [putU]
           refine wpAnyH_take (i := 27) (v := ?_) rfl (by kernel_rfl) (by kernel_rfl) (by kernel_rfl) (fun _ _ _ h => h) (Or.inl ⟨by rfl, ?_⟩) (HQ17.out _ _ HS.out) ?_
           rotate_left
           ·(intro w hSw; (try dsimp only at hSw); go_simp) <;> with_reducible rfl
           try simp only [putU]
           refine wpAnyH_ready (rs := [28]) (by kernel_rfl) (by simp) ?_
           refine AllReadyH.cons rfl (fun K hK => ?_) ?_
           ·go_simp
            go_wp2_with (go_at_call 53; with_reducible refine (HA2.out _ HS.out).mono ?_; rintro r w9 ⟨k3, hk3, rfl, hs9⟩; replace HS := hid hs9; have HK3 := hid hk3; clear hs9 hk3)
            refine hK.out _ _ (HQN2.out _ _ _ HS.out) (fun _ => ?_)
            clear hK K
            refine wpAnyH_take (i := 29) (v := ?_) rfl (by kernel_rfl) (by kernel_rfl) (by kernel_rfl) (fun _ _ _ h => h) (Or.inl ⟨by rfl, ?_⟩) (HQN2.out _ _ _ HS.out) ?_
            rotate_left
            ·(intro w hSw; (try dsimp only at hSw); go_simp) <;> with_reducible rfl
            try simp only [putU]
            refine wpAnyH_done (by kernel_rfl) ?_ _
            go_wp2_with fail
            go_meet
            exact .inr ⟨rfl, HSK, k3, HK3, HS.out⟩
           exact AllReadyH.nil
          exact AllReadyH.nil
         exact AllReadyH.nil
        | false =>
         have h2 := HAL2.out rfl rfl
         have hap := HAP.out h2
         by_cases h4 : bgi < enj
         ·have HSK : Hid (skips e1 i key m = false) := hid (by have h5 : ¬ enj < bgi := (by omega); rw [HSK0.out]; simp [hmi, h5])
          have hb4 : decide (bgi < enj) = true := decide_eq_true h4
          clear HSK0 hmi HAL2 HAL1 HAP h2 hap h4
          refine wp_region_held_drew (S := fun w' => (binOp .neq 90 (.pointer (some ⟨blkOf bs m, 0, none⟩)) (.pointer (some ⟨blkOf bs i, 0, none⟩))).run Tryz.prog w' = .ok (.bool true) w' ∧ w'.cell? ⟨blkOf bs m, 5, none⟩ = some (.int .i64 enj) ∧ w'.cell? ⟨blkOf bs i, 4, none⟩ = some (.int .i64 bgi)) (by kernel_rfl) (HQ17.out _ _ HS0.out.drew) (fun hHeld => ?_)
          refine wpAnyH_take (i := 0) (v := ?_) rfl (by kernel_rfl) (by kernel_rfl) (by kernel_rfl) (fun _ _ _ h => h) (Or.inl ⟨by rfl, ?_⟩) hHeld ?_
          rotate_left
          ·(intro w hSw; (try dsimp only at hSw); go_simp) <;> with_reducible rfl
          try simp only [putU]
          refine wpAnyH_take (i := 1) (v := ?_) rfl (by kernel_rfl) (by kernel_rfl) (by kernel_rfl) (fun _ _ _ h => h) (Or.inl ⟨by rfl, ?_⟩) hHeld ?_
          rotate_left
          ·(intro w hSw; (try dsimp only at hSw); go_simp) <;> with_reducible rfl
          try simp only [putU]
          refine wpAnyH_take (i := 2) (v := ?_) rfl (by kernel_rfl) (by kernel_rfl) (by kernel_rfl) (fun _ _ _ h => h) (Or.inl ⟨by rfl, ?_⟩) hHeld ?_
          rotate_left
          ·(intro w hSw; (try dsimp only at hSw); go_simp) <;> with_reducible rfl
          try simp only [putU]
          refine wpAnyH_take (i := 3) (v := ?_) rfl (by kernel_rfl) (by kernel_rfl) (by kernel_rfl) (fun _ _ _ h => h) (Or.inl ⟨by rfl, ?_⟩) hHeld ?_
          rotate_left
          ·(intro w hSw; (try dsimp only at hSw); go_simp) <;> with_reducible rfl
          try simp only [putU]
          refine wpAnyH_take (i := 4) (v := ?_) rfl (by kernel_rfl) (by kernel_rfl) (by kernel_rfl) (fun _ _ _ h => h) (Or.inl ⟨by rfl, ?_⟩) hHeld ?_
          rotate_left
          ·(intro w hSw; (try dsimp only at hSw); go_simp) <;> with_reducible rfl
          try simp only [putU]
          refine wpAnyH_take (i := 5) (v := ?_) rfl (by kernel_rfl) (by kernel_rfl) (by kernel_rfl) (fun _ _ _ h => h) (Or.inl ⟨by rfl, ?_⟩) hHeld ?_
          rotate_left
          ·(intro w hSw; (try dsimp only at hSw); go_simp) <;> with_reducible rfl
          try simp only [putU]
          refine wpAnyH_take (i := 6) (v := ?_) rfl (by kernel_rfl) (by kernel_rfl) (by kernel_rfl) (fun _ _ _ h => h) (Or.inl ⟨by rfl, ?_⟩) hHeld ?_
          rotate_left
          ·(intro w hSw; (try dsimp only at hSw); go_simp) <;> with_reducible rfl
          try simp only [putU]
          refine wpAnyH_take (i := 7) (v := ?_) rfl (by kernel_rfl) (by kernel_rfl) (by kernel_rfl) (fun _ _ _ h => h) (Or.inl ⟨by rfl, ?_⟩) hHeld ?_
          rotate_left
          ·(intro w hSw; (try dsimp only at hSw); go_simp) <;> with_reducible rfl
          try simp only [putU]
          have HS := hid HS0.out.drew
          clear hHeld
          refine anyH_world (fun w => Hid (S w0 w _)) HS (fun w1 HS => ?_)
          clear HS0
          refine wpAnyH_ready (rs := [8]) (by kernel_rfl) (by simp) ?_
          refine AllReadyH.cons rfl (fun K hK => ?_) ?_
          ·go_simp
           go_wp2_with (go_at_call 52; with_reducible refine (HSTR0.out _ HS.out).mono ?_; rintro r w' ⟨rfl, rfl⟩)
           refine hK.out _ _ (HQ17.out _ _ HS.out) (fun _ => ?_)
           clear hK K
           refine wpAnyH_take (i := 9) (v := ?_) rfl (by kernel_rfl) (by kernel_rfl) (by kernel_rfl) (fun _ _ _ h => h) (Or.inl ⟨by rfl, ?_⟩) (HQ17.out _ _ HS.out) ?_
           rotate_left
           ·(intro w hSw; (try dsimp only at hSw); go_simp) <;> with_reducible rfl
           try simp only [putU]
           refine wpAnyH_take (i := 10) (v := ?_) rfl (by kernel_rfl) (by kernel_rfl) (by kernel_rfl) (fun _ _ _ h => h) (Or.inl ⟨by rfl, ?_⟩) (HQ17.out _ _ HS.out) ?_
           rotate_left
           ·(intro w hSw; (try dsimp only at hSw); go_simp) <;> with_reducible rfl
           try simp only [putU]
           refine wpAnyH_take (i := 11) (v := ?_) rfl (by kernel_rfl) (by kernel_rfl) (by kernel_rfl) (fun _ _ _ h => h) (Or.inl ⟨by rfl, ?_⟩) (HQ17.out _ _ HS.out) ?_
           rotate_left
           ·(intro w hSw; (try dsimp only at hSw); go_simp) <;> with_reducible rfl
           try simp only [putU]
           refine wpAnyH_ready (rs := [12]) (by kernel_rfl) (by simp) ?_
           refine AllReadyH.cons rfl (fun K hK => ?_) ?_
           ·go_simp
            go_wp2_with (go_at_call 47; with_reducible refine (HALV0.out _ HS.out).mono ?_; rintro r w' ⟨rfl, rfl⟩)
            refine hK.out _ _ (HQ17.out _ _ HS.out) (fun _ => ?_)
            clear hK K
            refine wpAnyH_take (i := 13) (v := ?_) rfl (by kernel_rfl) (by kernel_rfl) (by kernel_rfl) (fun _ _ _ h => h) (Or.inl ⟨by rfl, ?_⟩) (HQ17.out _ _ HS.out) ?_
            rotate_left
            ·(intro w hSw; (try dsimp only at hSw); go_simp) <;> with_reducible rfl
            try simp only [putU]
            refine wpAnyH_take (i := 14) (v := ?_) rfl (by kernel_rfl) (by kernel_rfl) (by kernel_rfl) (fun _ _ _ h => h) (Or.inl ⟨by rfl, ?_⟩) (HQ17.out _ _ HS.out) ?_
            rotate_left
            ·(intro w hSw; (try dsimp only at hSw); go_simp) <;> with_reducible rfl
            try simp only [putU]
            refine wpAnyH_take (i := 15) (v := ?_) rfl (by kernel_rfl) (by kernel_rfl) (by kernel_rfl) (fun _ _ _ h => h) (Or.inl ⟨by rfl, ?_⟩) (HQ17.out _ _ HS.out) ?_
            rotate_left
            ·(intro w hSw; (try dsimp only at hSw); go_simp) <;> with_reducible rfl
            try simp only [putU]
            refine wpAnyH_take (i := 16) (v := ?_) rfl (by kernel_rfl) (by kernel_rfl) (by kernel_rfl) (fun _ _ _ h => h) (Or.inl ⟨by rfl, ?_⟩) (HQ17.out _ _ HS.out) ?_
            rotate_left
            ·(intro w hSw; (try dsimp only at hSw); go_simp) <;> with_reducible rfl
            try simp only [putU]
            refine wpAnyH_take (i := 17) (v := ?_) rfl (by kernel_rfl) (by kernel_rfl) (by kernel_rfl) (fun _ _ _ h => h) (Or.inl ⟨by rfl, ?_⟩) (HQ17.out _ _ HS.out) ?_
            rotate_left
            ·(intro w hSw; (try dsimp only at hSw); go_simp) <;> with_reducible rfl
            try simp only [putU]
            refine wpAnyH_take (i := 18) (v := ?_) rfl (by kernel_rfl) (by kernel_rfl) (by kernel_rfl) (fun _ _ _ h => h) (Or.inl ⟨by rfl, ?_⟩) (HQ17.out _ _ HS.out) ?_
            rotate_left
            ·(intro w hSw; (try dsimp only at hSw); go_simp) <;> with_reducible rfl
            try simp only [putU]
            refine wpAnyH_take (i := 19) (v := ?_) rfl (by kernel_rfl) (by kernel_rfl) (by kernel_rfl) (fun _ _ _ h => h) (Or.inl ⟨by rfl, ?_⟩) (HQ17.out _ _ HS.out) ?_
            rotate_left
            ·(intro w hSw; (try dsimp only at hSw); go_simp) <;> with_reducible rfl
            try simp only [putU]
            refine wpAnyH_take (i := 20) (v := ?_) rfl (by kernel_rfl) (by kernel_rfl) (by kernel_rfl) (fun _ _ _ h => h) (Or.inl ⟨by rfl, ?_⟩) (HQ17.out _ _ HS.out) ?_
            rotate_left
            ·(intro w hSw; (try dsimp only at hSw); go_simp) <;> with_reducible rfl
            try simp only [putU]
            refine wpAnyH_take (i := 21) (v := ?_) rfl (by kernel_rfl) (by kernel_rfl) (by kernel_rfl) (fun _ _ _ h => h) (Or.inl ⟨by rfl, ?_⟩) (HQ17.out _ _ HS.out) ?_
            rotate_left
            ·(intro w hSw; (try dsimp only at hSw); go_simp) <;> with_reducible rfl
            try simp only [putU]
            refine wpAnyH_take (i := 22) (v := ?_) rfl (by kernel_rfl) (by kernel_rfl) (by kernel_rfl) (fun _ _ _ h => h) (Or.inl ⟨by rfl, ?_⟩) (HQ17.out _ _ HS.out) ?_
            rotate_left
            ·(intro w hSw; (try dsimp only at hSw); go_simp) <;> with_reducible rfl
            try simp only [putU]
            refine wpAnyH_take (i := 23) (v := ?_) rfl (by kernel_rfl) (by kernel_rfl) (by kernel_rfl) (fun _ _ _ h => h) (Or.inl ⟨by rfl, ?_⟩) (HQ17.out _ _ HS.out) ?_
            rotate_left
            ·(intro w hSw; (try dsimp only at hSw); go_simp) <;> with_reducible rfl
            try simp only [putU]
            refine wpAnyH_take (i := 24) (v := ?_) rfl (by kernel_rfl) (by kernel_rfl) (by kernel_rfl) (fun _ _ _ h => h) (Or.inl ⟨by rfl, ?_⟩) (HQ17.out _ _ HS.out) ?_
            rotate_left
            ·(intro w hSw; (try dsimp only at hSw); go_simp) <;> with_reducible rfl
            try simp only [putU]
            refine wpAnyH_take (i := 25) (v := ?_) rfl (by kernel_rfl) (by kernel_rfl) (by kernel_rfl) (fun _ _ _ h => h) (Or.inl ⟨by rfl, ?_⟩) (HQ17.out _ _ HS.out) ?_
            rotate_left
            ·(intro w hSw; (try dsimp only at hSw); go_simp) <;> with_reducible rfl
            try simp only [putU]
            refine wpAnyH_take (i := 26) (v := ?_) rfl (by kernel_rfl) (by kernel_rfl) (by kernel_rfl) (fun _ _ _ h => h) (Or.inl ⟨by rfl, ?_⟩) (HQ17.out _ _ HS.out) ?_
            rotate_left
            ·(intro w hSw; (try dsimp only at hSw); go_simp) <;> with_reducible rfl
            try simp only [putU]
            refine wpAnyH_take (i := 27) (v := ?_) rfl (by kernel_rfl) (by kernel_rfl) (by kernel_rfl) (fun _ _ _ h => h) (Or.inl ⟨by rfl, ?_⟩) (HQ17.out _ _ HS.out) ?_
            rotate_left
            ·(intro w hSw; (try dsimp only at hSw); go_simp) <;> with_reducible rfl
            try simp only [putU]
            refine wpAnyH_ready (rs := [28]) (by kernel_rfl) (by simp) ?_
            refine AllReadyH.cons rfl (fun K hK => ?_) ?_
            ·go_simp
             go_wp2_with (go_at_call 53; with_reducible refine (HA2.out _ HS.out).mono ?_; rintro r w9 ⟨k3, hk3, rfl, hs9⟩; replace HS := hid hs9; have HK3 := hid hk3; clear hs9 hk3)
             refine hK.out _ _ (HQN2.out _ _ _ HS.out) (fun _ => ?_)
             clear hK K
             refine wpAnyH_take (i := 29) (v := ?_) rfl (by kernel_rfl) (by kernel_rfl) (by kernel_rfl) (fun _ _ _ h => h) (Or.inl ⟨by rfl, ?_⟩) (HQN2.out _ _ _ HS.out) ?_
             rotate_left
             ·(intro w hSw; (try dsimp only at hSw); go_simp) <;> with_reducible rfl
             try simp only [putU]
             refine wpAnyH_done (by kernel_rfl) ?_ _
             go_wp2_with fail
             go_meet
             exact .inr ⟨rfl, HSK, k3, HK3, HS.out⟩
            exact AllReadyH.nil
           exact AllReadyH.nil
          exact AllReadyH.nil
         ·have HSK : Hid (skips e1 i key m = true) := hid (by have h5 : enj < bgi := (by omega); rw [HSK0.out]; simp [h2, h5])
          have hb4 : decide (bgi < enj) = false := decide_eq_false h4
          clear HSK0 hmi HAL2 HAL1 HAP h2 hap h4 HA2
          refine wp_region_held_drew (S := fun w' => (binOp .neq 90 (.pointer (some ⟨blkOf bs m, 0, none⟩)) (.pointer (some ⟨blkOf bs i, 0, none⟩))).run Tryz.prog w' = .ok (.bool true) w' ∧ w'.cell? ⟨blkOf bs m, 5, none⟩ = some (.int .i64 enj) ∧ w'.cell? ⟨blkOf bs i, 4, none⟩ = some (.int .i64 bgi)) (by kernel_rfl) (HQ17.out _ _ HS0.out.drew) (fun hHeld => ?_)
          refine wpAnyH_take (i := 0) (v := ?_) rfl (by kernel_rfl) (by kernel_rfl) (by kernel_rfl) (fun _ _ _ h => h) (Or.inl ⟨by rfl, ?_⟩) hHeld ?_
          rotate_left
          ·(intro w hSw; (try dsimp only at hSw); go_simp) <;> with_reducible rfl
          try simp only [putU]
          refine wpAnyH_take (i := 1) (v := ?_) rfl (by kernel_rfl) (by kernel_rfl) (by kernel_rfl) (fun _ _ _ h => h) (Or.inl ⟨by rfl, ?_⟩) hHeld ?_
          rotate_left
          ·(intro w hSw; (try dsimp only at hSw); go_simp) <;> with_reducible rfl
          try simp only [putU]
          refine wpAnyH_take (i := 2) (v := ?_) rfl (by kernel_rfl) (by kernel_rfl) (by kernel_rfl) (fun _ _ _ h => h) (Or.inl ⟨by rfl, ?_⟩) hHeld ?_
          rotate_left
          ·(intro w hSw; (try dsimp only at hSw); go_simp) <;> with_reducible rfl
          try simp only [putU]
          refine wpAnyH_take (i := 3) (v := ?_) rfl (by kernel_rfl) (by kernel_rfl) (by kernel_rfl) (fun _ _ _ h => h) (Or.inl ⟨by rfl, ?_⟩) hHeld ?_
          rotate_left
          ·(intro w hSw; (try dsimp only at hSw); go_simp) <;> with_reducible rfl
          try simp only [putU]
          refine wpAnyH_take (i := 4) (v := ?_) rfl (by kernel_rfl) (by kernel_rfl) (by kernel_rfl) (fun _ _ _ h => h) (Or.inl ⟨by rfl, ?_⟩) hHeld ?_
          rotate_left
          ·(intro w hSw; (try dsimp only at hSw); go_simp) <;> with_reducible rfl
          try simp only [putU]
          refine wpAnyH_take (i := 5) (v := ?_) rfl (by kernel_rfl) (by kernel_rfl) (by kernel_rfl) (fun _ _ _ h => h) (Or.inl ⟨by rfl, ?_⟩) hHeld ?_
          rotate_left
          ·(intro w hSw; (try dsimp only at hSw); go_simp) <;> with_reducible rfl
          try simp only [putU]
          refine wpAnyH_take (i := 6) (v := ?_) rfl (by kernel_rfl) (by kernel_rfl) (by kernel_rfl) (fun _ _ _ h => h) (Or.inl ⟨by rfl, ?_⟩) hHeld ?_
          rotate_left
          ·(intro w hSw; (try dsimp only at hSw); go_simp) <;> with_reducible rfl
          try simp only [putU]
          refine wpAnyH_take (i := 7) (v := ?_) rfl (by kernel_rfl) (by kernel_rfl) (by kernel_rfl) (fun _ _ _ h => h) (Or.inl ⟨by rfl, ?_⟩) hHeld ?_
          rotate_left
          ·(intro w hSw; (try dsimp only at hSw); go_simp) <;> with_reducible rfl
          try simp only [putU]
          have HS := hid HS0.out.drew
          clear hHeld
          refine anyH_world (fun w => Hid (S w0 w _)) HS (fun w1 HS => ?_)
          clear HS0
          refine wpAnyH_ready (rs := [8]) (by kernel_rfl) (by simp) ?_
          refine AllReadyH.cons rfl (fun K hK => ?_) ?_
          ·go_simp
           go_wp2_with (go_at_call 52; with_reducible refine (HSTR0.out _ HS.out).mono ?_; rintro r w' ⟨rfl, rfl⟩)
           refine hK.out _ _ (HQ17.out _ _ HS.out) (fun _ => ?_)
           clear hK K
           refine wpAnyH_take (i := 9) (v := ?_) rfl (by kernel_rfl) (by kernel_rfl) (by kernel_rfl) (fun _ _ _ h => h) (Or.inl ⟨by rfl, ?_⟩) (HQ17.out _ _ HS.out) ?_
           rotate_left
           ·(intro w hSw; (try dsimp only at hSw); go_simp) <;> with_reducible rfl
           try simp only [putU]
           refine wpAnyH_take (i := 10) (v := ?_) rfl (by kernel_rfl) (by kernel_rfl) (by kernel_rfl) (fun _ _ _ h => h) (Or.inl ⟨by rfl, ?_⟩) (HQ17.out _ _ HS.out) ?_
           rotate_left
           ·(intro w hSw; (try dsimp only at hSw); go_simp) <;> with_reducible rfl
           try simp only [putU]
           refine wpAnyH_take (i := 11) (v := ?_) rfl (by kernel_rfl) (by kernel_rfl) (by kernel_rfl) (fun _ _ _ h => h) (Or.inl ⟨by rfl, ?_⟩) (HQ17.out _ _ HS.out) ?_
           rotate_left
           ·(intro w hSw; (try dsimp only at hSw); go_simp) <;> with_reducible rfl
           try simp only [putU]
           refine wpAnyH_ready (rs := [12]) (by kernel_rfl) (by simp) ?_
           refine AllReadyH.cons rfl (fun K hK => ?_) ?_
           ·go_simp
            go_wp2_with (go_at_call 47; with_reducible refine (HALV0.out _ HS.out).mono ?_; rintro r w' ⟨rfl, rfl⟩)
            refine hK.out _ _ (HQ17.out _ _ HS.out) (fun _ => ?_)
            clear hK K
            refine wpAnyH_take (i := 13) (v := ?_) rfl (by kernel_rfl) (by kernel_rfl) (by kernel_rfl) (fun _ _ _ h => h) (Or.inl ⟨by rfl, ?_⟩) (HQ17.out _ _ HS.out) ?_
            rotate_left
            ·(intro w hSw; (try dsimp only at hSw); go_simp) <;> with_reducible rfl
            try simp only [putU]
            refine wpAnyH_take (i := 14) (v := ?_) rfl (by kernel_rfl) (by kernel_rfl) (by kernel_rfl) (fun _ _ _ h => h) (Or.inl ⟨by rfl, ?_⟩) (HQ17.out _ _ HS.out) ?_
            rotate_left
            ·(intro w hSw; (try dsimp only at hSw); go_simp) <;> with_reducible rfl
            try simp only [putU]
            refine wpAnyH_take (i := 15) (v := ?_) rfl (by kernel_rfl) (by kernel_rfl) (by kernel_rfl) (fun _ _ _ h => h) (Or.inl ⟨by rfl, ?_⟩) (HQ17.out _ _ HS.out) ?_
            rotate_left
            ·(intro w hSw; (try dsimp only at hSw); go_simp) <;> with_reducible rfl
            try simp only [putU]
            refine wpAnyH_take (i := 16) (v := ?_) rfl (by kernel_rfl) (by kernel_rfl) (by kernel_rfl) (fun _ _ _ h => h) (Or.inl ⟨by rfl, ?_⟩) (HQ17.out _ _ HS.out) ?_
            rotate_left
            ·(intro w hSw; (try dsimp only at hSw); go_simp) <;> with_reducible rfl
            try simp only [putU]
            refine wpAnyH_take (i := 17) (v := ?_) rfl (by kernel_rfl) (by kernel_rfl) (by kernel_rfl) (fun _ _ _ h => h) (Or.inl ⟨by rfl, ?_⟩) (HQ17.out _ _ HS.out) ?_
            rotate_left
            ·(intro w hSw; (try dsimp only at hSw); go_simp) <;> with_reducible rfl
            try simp only [putU]
            refine wpAnyH_take (i := 18) (v := ?_) rfl (by kernel_rfl) (by kernel_rfl) (by kernel_rfl) (fun _ _ _ h => h) (Or.inl ⟨by rfl, ?_⟩) (HQ17.out _ _ HS.out) ?_
            rotate_left
            ·(intro w hSw; (try dsimp only at hSw); go_simp) <;> with_reducible rfl
            try simp only [putU]
            refine wpAnyH_take (i := 19) (v := ?_) rfl (by kernel_rfl) (by kernel_rfl) (by kernel_rfl) (fun _ _ _ h => h) (Or.inl ⟨by rfl, ?_⟩) (HQ17.out _ _ HS.out) ?_
            rotate_left
            ·(intro w hSw; (try dsimp only at hSw); go_simp) <;> with_reducible rfl
            try simp only [putU]
            refine wpAnyH_take (i := 20) (v := ?_) rfl (by kernel_rfl) (by kernel_rfl) (by kernel_rfl) (fun _ _ _ h => h) (Or.inl ⟨by rfl, ?_⟩) (HQ17.out _ _ HS.out) ?_
            rotate_left
            ·(intro w hSw; (try dsimp only at hSw); go_simp) <;> with_reducible rfl
            try simp only [putU]
            refine wpAnyH_take (i := 21) (v := ?_) rfl (by kernel_rfl) (by kernel_rfl) (by kernel_rfl) (fun _ _ _ h => h) (Or.inl ⟨by rfl, ?_⟩) (HQ17.out _ _ HS.out) ?_
            rotate_left
            ·(intro w hSw; (try dsimp only at hSw); go_simp) <;> with_reducible rfl
            try simp only [putU]
            refine wpAnyH_take (i := 22) (v := ?_) rfl (by kernel_rfl) (by kernel_rfl) (by kernel_rfl) (fun _ _ _ h => h) (Or.inl ⟨by rfl, ?_⟩) (HQ17.out _ _ HS.out) ?_
            rotate_left
            ·(intro w hSw; (try dsimp only at hSw); go_simp) <;> with_reducible rfl
            try simp only [putU]
            refine wpAnyH_take (i := 23) (v := ?_) rfl (by kernel_rfl) (by kernel_rfl) (by kernel_rfl) (fun _ _ _ h => h) (Or.inl ⟨by rfl, ?_⟩) (HQ17.out _ _ HS.out) ?_
            rotate_left
            ·(intro w hSw; (try dsimp only at hSw); go_simp) <;> with_reducible rfl
            try simp only [putU]
            refine wpAnyH_take (i := 24) (v := ?_) rfl (by kernel_rfl) (by kernel_rfl) (by kernel_rfl) (fun _ _ _ h => h) (Or.inl ⟨by rfl, ?_⟩) (HQ17.out _ _ HS.out) ?_
            rotate_left
            ·(intro w hSw; (try dsimp only at hSw); go_simp) <;> with_reducible rfl
            try simp only [putU]
            refine wpAnyH_take (i := 25) (v := ?_) rfl (by kernel_rfl) (by kernel_rfl) (by kernel_rfl) (fun _ _ _ h => h) (Or.inl ⟨by rfl, ?_⟩) (HQ17.out _ _ HS.out) ?_
            rotate_left
            ·(intro w hSw; (try dsimp only at hSw); go_simp) <;> with_reducible rfl
            try simp only [putU]
            refine wpAnyH_take (i := 26) (v := undef) rfl (by kernel_rfl) (by kernel_rfl) (by kernel_rfl) (fun _ _ _ h => h) (Or.inr ⟨by rfl, rfl⟩) (HQ17.out _ _ HS.out) ?_
            try simp only [putU]
            refine wpAnyH_take (i := 27) (v := undef) rfl (by kernel_rfl) (by kernel_rfl) (by kernel_rfl) (fun _ _ _ h => h) (Or.inr ⟨by rfl, rfl⟩) (HQ17.out _ _ HS.out) ?_
            try simp only [putU]
            refine wpAnyH_take (i := 28) (v := undef) rfl (by kernel_rfl) (by kernel_rfl) (by kernel_rfl) (fun _ _ _ h => h) (Or.inr ⟨by rfl, rfl⟩) (HQ17.out _ _ HS.out) ?_
            try simp only [putU]
            refine wpAnyH_take (i := 29) (v := ?_) rfl (by kernel_rfl) (by kernel_rfl) (by kernel_rfl) (fun _ _ _ h => h) (Or.inl ⟨by rfl, ?_⟩) (HQ17.out _ _ HS.out) ?_
            rotate_left
            ·(intro w hSw; (try dsimp only at hSw); go_simp) <;> with_reducible rfl
            try simp only [putU]
            refine wpAnyH_done (by kernel_rfl) ?_ _
            go_wp2_with fail
            go_meet
            exact .inl ⟨rfl, HSK, HS.out⟩
           exact AllReadyH.nil
          exact AllReadyH.nil
     case rest =>
     rename World => wy
     clear HR1 HQ16 HQN HSTR0 HALV0 HSK0 HONE HAH HAL2 HAL1 HAP
     rcases hcut with ⟨rfl, hsk, hs10⟩ | ⟨rfl, hsk, k3, hkk, hs10⟩
     ·have H10 := hid hs10
      have hf3 : putsG (goesN n) e i (key, val) = putsL (goesN n) i key ((List.range e.txs.length).drop (m + 1)) e1 := by rw [HFM.out, putsL, if_pos hsk.out]
      have HF3 := hid hf3; have HOK3 := hid HOKM.out.skipped
      clear hf3 hsk HFM hs10
      go_wp2_with fail
      go_roundw
      case rel => exact ⟨m + 1, e1, k1, by omega, by go_num, hk1, HOK3, hti1, hsm1, ho1, hn1, HF3, H10.out⟩
      case measure => simp [intOf]; omega
     ·have H10 := hid hs10
      have hnt := HOKM.out.noted
      have HNT := hid hnt
      have hno := Eng.note_open e1 m i
      have HNO := hid hno
      have hsm3 : Same (e1.note m i).V (e1.note m i).last K ∧ SameT (e1.note m i).t Qs ∧ Room M [] k3 (e1.note m i) := ⟨hsm1.out.1, hsm1.out.2.1, (hsm1.out.2.2.own hkk.out.2).noted m i⟩
      have HSM3 := hid hsm3
      have hti3 := hti1.out.note m i
      have HTI3 := hid hti3
      clear hnt hno hsm3 hs10 hti3
      cases hbad : (e1.note m i).bad m i with
      | true =>
       have hf3 : putsG (goesN n) e i (key, val) = goesN n (e1.note m i) i 13 := by rw [HFM.out, putsL, if_neg (by rw [hsk.out]; simp)]; simp [hbad]
       have hk3 := HNT.out.ok _ (List.mem_cons_self ..)
       have hst3 := (hk3.ask i key _ rfl).1
       have hcg := HG.out w0 wy b bs (e1.note m i) i 13 L N U M (HNT.out.tail (by simp)) HTI3.out hk3.lt (by simp [Tx.alive, hst3]) HNT.out.who_ne (by rw [HNO.out]; exact ho1.out) hN hM (S.ren_shut HSM3.out H10.out.tail)
       have HF3 := hid hf3; have HCG := hid hcg
       clear hf3 hk3 hst3 hcg HFM hbad
       go_wp2_with fail
       with_reducible refine HCG.out.mono ?_
       rintro r w2 ⟨rfl, hs4⟩
       have H4 := hid hs4
       clear hs4
       go_wp2_with fail
       refine bodyPost_ret (v := .tuple #[]) (by simp [results, Tryz.results60, go_sem]) rfl ?_
       exact ⟨rfl, by rw [HF3.out]; exact H4.out⟩
      | false =>
       have hf3 : putsG (goesN n) e i (key, val) = putsL (goesN n) i key ((List.range e.txs.length).drop (m + 1)) (e1.note m i) := by rw [HFM.out, putsL, if_neg (by rw [hsk.out]; simp)]; simp [hbad]
       have HF3 := hid hf3
       clear hf3 HFM hbad hsk
       go_wp2_with fail
       go_roundw
       case rel => exact ⟨m + 1, e1.note m i, k3, by omega, by go_num, hid (hkk.out.1.trans hk1.out), HNT, HTI3, HSM3, hid (by rw [HNO.out]; exact ho1.out), hid (by rw [HNL.out]; exact hn1.out), HF3, H10.out⟩
       case measure => simp [intOf]; omega
  ·have hd : (List.range e.txs.length).drop m = [] := List.drop_eq_nil_iff.2 (by simp; omega)
   have hf2 := hf1.out
   rw [hd] at hf2
   have HF2 := hid hf2; have HSR := hid hsr
   clear hd hf2 hsr hf1 hok1 HROW hti1
   go_wp2_with fail
   go_end0
   exact ⟨rfl, by rw [HF2.out]; exact S.ren_shut hsm1.out HSR.out.tail⟩
end Go.Proofs.YtmfngjclccehaaaGreatDoor
