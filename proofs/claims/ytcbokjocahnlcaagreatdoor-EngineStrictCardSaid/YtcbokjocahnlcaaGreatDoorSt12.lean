/- interleafkeep's tale: does, when one of the last few does something: it reads. -/
import Derived.Test.YtcbokjocahnlcaaGreatDoorSt0
import Derived.Test.YtcbokjocahnlcaaGreatDoorSt10
import Derived.Test.YtcbokjocahnlcaaGreatDoorSt11
import Derived.Deep.DeepCutAuto
import Derived.Deep.CutBlock
/- interleafkeep's tale: does, when one is begun. -/
namespace Go.Proofs.YtcbokjocahnlcaaGreatDoor
open Go Go.RowKit Go.Sep
theorem Tryz.infoT37 : (Tryz.prog.info? 37).map (fun i => (i.zero, i.size, i.bytes)) = some (some (.slice none 0 0), 1, 24) := by kernel_rfl
theorem Tryz.infoT57 : (Tryz.prog.info? 57).map (fun i => (i.zero, i.size, i.bytes)) = some (some (.map none), 1, 8) := by kernel_rfl
theorem Tryz.infoT65 : (Tryz.prog.info? 65).map (fun i => (i.zero, i.size, i.bytes)) = some (some (.slice none 0 0), 1, 24) := by kernel_rfl
structure TaleOk (N : Nat) (t : Tale) : Prop where
 ok : OkT N t.e []
 few : N ≤ 80000000
 steps : 0 ≤ t.steps ∧ t.steps ≤ 1000000
 n : 0 ≤ t.n ∧ t.n ≤ 1000000
 len : t.recs.length = t.e.txs.length
 reads : ∀ r ∈ t.recs, r.reads.length ≤ 1000000 ∧ r.snap.length ≤ 1000000
def halfP (b be : Nat) (k : TaleV) (t : Tale) (l' s' o' : Value) (lv : Int) (sv : Value) (m : Nat) : HProp :=
 sep (pur (k.vs.length = t.recs.length)) (sep (blk b 35 [.pointer (some ⟨be, 0, none⟩), l', s', o', k.rv, k.bv, k.wv, .int .i64 t.steps, .int .i64 t.n, .bool t.broken])
  (sep (sl 3 1 l' (t.recs.length + 1) (icells (t.recs.map (·.level)) ++ [.int .i64 lv])) (sep (sl 37 1 s' (t.recs.length + 1) (k.vs.map (·.sv) ++ [sv])) (sep (sl 57 1 o' (t.recs.length + 1) (k.vs.map mapV ++ [.map (some m)]))
  (sep (sl 65 1 k.rv t.recs.length (k.vs.map (·.rv))) (sep (sl 3 1 k.bv t.recs.length (icells (t.recs.map (·.begun)))) (sl 3 1 k.wv t.recs.length (icells (t.recs.map (·.over))))))))))
section
variable {w w0 : World} {L : List HProp} {b be : Nat} {k : TaleV} {t : Tale}
theorem _root_.Go.Sep.S.half_close {l' s' o' : Value} {lv : Int} {sv : Value} {m : Nat} (hl : k.vs.length = t.recs.length)
  (h : S w0 w (blk b 35 (taleF be k t) :: sl 3 1 l' (t.recs.length + 1) (icells (t.recs.map (·.level)) ++ [.int .i64 lv]) :: sl 37 1 s' (t.recs.length + 1) (k.vs.map (·.sv) ++ [sv]) :: sl 57 1 o' (t.recs.length + 1) (k.vs.map mapV ++ [.map (some m)]) ::
   sl 65 1 k.rv t.recs.length (k.vs.map (·.rv)) :: sl 3 1 k.bv t.recs.length (icells (t.recs.map (·.begun))) :: sl 3 1 k.wv t.recs.length (icells (t.recs.map (·.over))) :: L)) :
  S w0 (((w.setCell ⟨b, 1, none⟩ l').setCell ⟨b, 2, none⟩ s').setCell ⟨b, 3, none⟩ o') (halfP b be k t l' s' o' lv sv m :: L) := by
 have h1 := ((h.blk_set 1 (by simp [taleF]) l').blk_set 2 (by simp [taleF]) s').blk_set 3 (by simp [taleF]) o'
 exact .sep_intro (.pur_intro hl (h1.conv (by simp only [all, taleF, List.set_cons_succ, List.set_cons_zero]; ac_rfl)))
theorem _root_.Go.Sep.S.half_parts {l' s' o' : Value} {lv : Int} {sv : Value} {m : Nat} (h : S w0 w (halfP b be k t l' s' o' lv sv m :: L)) : k.vs.length = t.recs.length ∧
  S w0 w (sl 65 1 k.rv t.recs.length (k.vs.map (·.rv)) :: sl 3 1 k.bv t.recs.length (icells (t.recs.map (·.begun))) :: sl 3 1 k.wv t.recs.length (icells (t.recs.map (·.over))) :: blk b 35 [.pointer (some ⟨be, 0, none⟩), l', s', o', k.rv, k.bv, k.wv, .int .i64 t.steps, .int .i64 t.n, .bool t.broken] ::
   sl 3 1 l' (t.recs.length + 1) (icells (t.recs.map (·.level)) ++ [.int .i64 lv]) :: sl 37 1 s' (t.recs.length + 1) (k.vs.map (·.sv) ++ [sv]) :: sl 57 1 o' (t.recs.length + 1) (k.vs.map mapV ++ [.map (some m)]) :: L) := by
 obtain ⟨h1, h2⟩ := h.sep_elim.pur_elim
 exact ⟨h1, h2.conv (by simp only [all]; ac_rfl)⟩
theorem _root_.Go.Sep.S.whole_close {l' s' o' r' b' v' : Value} {lv st : Int} {snap : List (Int × Int)} {sv : Value} {m : Nat} (hl : k.vs.length = t.recs.length)
  (h : S w0 w (sl 65 1 r' (t.recs.length + 1) (k.vs.map (·.rv) ++ [.slice none 0 0]) :: sl 3 1 b' (t.recs.length + 1) (icells (t.recs.map (·.begun)) ++ [.int .i64 st]) :: sl 3 1 v' (t.recs.length + 1) (icells (t.recs.map (·.over)) ++ [.int .i64 0]) ::
   blk b 35 [.pointer (some ⟨be, 0, none⟩), l', s', o', k.rv, k.bv, k.wv, .int .i64 t.steps, .int .i64 t.n, .bool t.broken] ::
   sl 3 1 l' (t.recs.length + 1) (icells (t.recs.map (·.level)) ++ [.int .i64 lv]) :: sl 37 1 s' (t.recs.length + 1) (k.vs.map (·.sv) ++ [sv]) :: sl 57 1 o' (t.recs.length + 1) (k.vs.map mapV ++ [.map (some m)]) ::
   all (recPs k.vs t.recs) :: mp encI (fun _ => True) m [] :: sl 44 2 sv snap.length (pcells snap) :: L)) :
  ∃ k', S w0 (((w.setCell ⟨b, 4, none⟩ r').setCell ⟨b, 5, none⟩ b').setCell ⟨b, 6, none⟩ v') (taleB b be k' { t with recs := t.recs ++ [⟨lv, snap, [], [], st, 0⟩] } :: all (recPs k'.vs (t.recs ++ [⟨lv, snap, [], [], st, 0⟩])) :: L) := by
 have h0 := h.conv (M := blk b 35 [.pointer (some ⟨be, 0, none⟩), l', s', o', k.rv, k.bv, k.wv, .int .i64 t.steps, .int .i64 t.n, .bool t.broken] :: sl 65 1 r' (t.recs.length + 1) (k.vs.map (·.rv) ++ [.slice none 0 0]) :: sl 3 1 b' (t.recs.length + 1) (icells (t.recs.map (·.begun)) ++ [.int .i64 st]) :: sl 3 1 v' (t.recs.length + 1) (icells (t.recs.map (·.over)) ++ [.int .i64 0]) ::
   sl 3 1 l' (t.recs.length + 1) (icells (t.recs.map (·.level)) ++ [.int .i64 lv]) :: sl 37 1 s' (t.recs.length + 1) (k.vs.map (·.sv) ++ [sv]) :: sl 57 1 o' (t.recs.length + 1) (k.vs.map mapV ++ [.map (some m)]) ::
   all (recPs k.vs t.recs) :: mp encI (fun _ => True) m [] :: sl 44 2 sv snap.length (pcells snap) :: L) (by simp only [all]; ac_rfl)
 have h1 := ((h0.blk_set 4 (by simp) r').blk_set 5 (by simp) b').blk_set 6 (by simp) v'
 have h2 := S.sl_nil (e := 67) (size := 2) h1
 refine ⟨⟨l', s', o', r', b', v', k.vs ++ [⟨sv, m, .slice none 0 0⟩]⟩, S.tale_join (by simp [hl]) ?_⟩
 rw [recPs_snoc hl, all_append]
 simp only [List.length_append, List.length_singleton, List.map_append, List.map_cons, List.map_nil, icells_append]
 refine h2.conv ?_
 simp only [all, sep_emp, List.set_cons_succ, List.set_cons_zero]
 show sep (sl _ 2 (.slice none 0 0) 0 []) (sep (blk b _ [.pointer (some ⟨be, 0, none⟩), l', s', o', r', b', v', .int .i64 t.steps, .int .i64 t.n, .bool t.broken]) _) = sep (blk b _ [.pointer (some ⟨be, 0, none⟩), l', s', o', r', b', v', .int .i64 t.steps, .int .i64 t.n, .bool t.broken]) (sep (sl _ 1 l' _ (icells (t.recs.map (·.level)) ++ [.int .i64 lv])) (sep _ (sep (sl _ 1 o' _ (k.vs.map mapV ++ [.map (some m)])) (sep _ (sep (sl _ 1 b' _ (icells (t.recs.map (·.begun)) ++ [.int .i64 st])) (sep (sl _ 1 v' _ (icells (t.recs.map (·.over)) ++ [.int .i64 0])) (sep (sep (all (recPs k.vs t.recs)) (sep (sl _ 2 sv snap.length (pcells snap)) (sep (mp encI (fun _ => True) m []) (sl _ 2 (.slice none 0 0) 0 [])))) _)))))))
 ac_rfl
end
theorem goneU {p : Prop} (h : true = false) : p := Bool.noConfusion h
def actV (what level tx key : Int) : Value := .agg #[.int .i64 what, .int .i64 level, .int .i64 tx, .int .i64 key]
def Tale.step (t : Tale) : Tale := { t with steps := t.steps + 1 }
theorem TaleOk.step {N : Nat} {t : Tale} (h : TaleOk N t) (hs : t.steps < 1000000) : TaleOk N t.step := ⟨h.ok, h.few, ⟨by show 0 ≤ t.steps + 1; have := h.steps.1; omega, by show t.steps + 1 ≤ 1000000; omega⟩, h.n, h.len, h.reads⟩
theorem does_pre {w0 w : World} {L : List HProp} {b be : Nat} {bs : List Nat} {k : TaleV} {t0 : Tale} {what level tx key : Int} (h : S w0 w (taleB b be k t0 :: all (recPs k.vs t0.recs) :: engP be bs t0.e :: L)) :
  ((w.alloc (.cells #[.int .i64 what, .int .i64 level, .int .i64 tx, .int .i64 key] 28)).cell? ⟨b, 7, none⟩ = some (.int .i64 t0.steps) ∧ (w.alloc (.cells #[.int .i64 what, .int .i64 level, .int .i64 tx, .int .i64 key] 28)).frozen? ⟨b, 7, none⟩ = false) ∧
  S w0 ((w.alloc (.cells #[.int .i64 what, .int .i64 level, .int .i64 tx, .int .i64 key] 28)).setCell ⟨b, 7, none⟩ (.int .i64 (t0.steps + 1))) (taleB b be k t0.step :: all (recPs k.vs t0.recs) :: engP be bs t0.e :: blk w.heap.size 28 [.int .i64 what, .int .i64 level, .int .i64 tx, .int .i64 key] :: L) := by
 have hA := (h.alloc #[.int .i64 what, .int .i64 level, .int .i64 tx, .int .i64 key] 28)
 have h1 : S w0 (w.alloc (.cells #[.int .i64 what, .int .i64 level, .int .i64 tx, .int .i64 key] 28)) (taleB b be k t0 :: all (recPs k.vs t0.recs) :: engP be bs t0.e :: blk w.heap.size 28 [.int .i64 what, .int .i64 level, .int .i64 tx, .int .i64 key] :: L) := hA.conv (by simp only [all]; ac_rfl)
 exact ⟨⟨h1.tale_see.1.steps, h1.tale_see.1.free 7⟩, h1.tale_set (t' := t0.step) rfl (by decide) rfl⟩
set_option linter.unusedSimpArgs false in
set_option maxRecDepth 100000 in
set_option maxHeartbeats 16000000 in
theorem does_begin (w0 w : World) (b be : Nat) (t0 : Tale) (lvl0 tx0 key0 lv0 : Int) (L : List HProp) (N : Nat) (hok0 : TaleOk N t0) (hst0 : t0.steps < 1000000) (hs : S w0 w (tale2 b be t0 :: L)) :
  Calls Tryz.prog 8 #[.pointer (some ⟨b, 0, none⟩), actV 0 lvl0 tx0 key0, .int .i64 lv0] w fun r w' => r = .returned (.tuple #[]) ∧ S w0 w' (tale2 b be (t0.does ⟨0, lvl0, tx0, key0⟩ lv0) :: L) := by
 obtain ⟨bs, k, h⟩ := hs.t2_open
 obtain ⟨⟨c7, f7⟩, h1⟩ := does_pre (what := 0) (level := lvl0) (tx := tx0) (key := key0) h
 obtain ⟨lv, hlv⟩ : ∃ lv, lv = if lv0 < 0 then (pickN lvl0 3 : Int) else lv0 := ⟨_, rfl⟩
 have hdo : t0.does ⟨0, lvl0, tx0, key0⟩ lv0 = t0.step.began lv := by unfold Tale.does; rw [hlv]; rfl
 have hst := hok0.steps
 have hok := hok0.step hst0
 obtain ⟨t, ht⟩ : ∃ t, t = t0.step := ⟨_, rfl⟩
 rw [← ht] at h1 hdo hok
 have hre : t0.recs = t.recs := by rw [ht]; rfl
 have hee : t0.e = t.e := by rw [ht]; rfl
 rw [hre, hee] at h1
 have hact : ∀ W (M : List HProp), S w0 W (taleB b be k t :: all (recPs k.vs t.recs) :: engP be bs t.e :: blk w.heap.size 28 [.int .i64 0, .int .i64 lvl0, .int .i64 tx0, .int .i64 key0] :: M) → W.cell? ⟨w.heap.size, 0, none⟩ = some (.int .i64 0) ∧ W.cell? ⟨w.heap.size, 1, none⟩ = some (.int .i64 lvl0) ∧ W.cell? ⟨w.heap.size, 3, none⟩ = some (.int .i64 key0) := fun W M h => by
  have h2 := h.rot4
  exact ⟨h2.blk_cell 0 rfl, h2.blk_cell 1 rfl, h2.blk_cell 3 rfl⟩
 obtain ⟨a0, a1, a3⟩ := hact _ _ h1
 have hall := fun W M h => eall_any w0 W be bs t.e M N [] hok.ok h
 have hbg := fun W M h => ebegin_any w0 W be bs t.e lv M N hok.ok h
 have hc0 : ∀ W (M : List HProp), S w0 W (taleB b be k t :: M) → W.cell? ⟨b, 0, none⟩ = some (.pointer (some ⟨be, 0, none⟩)) := fun W M h => h.tale_see.1.e
 have H1 := hid h1; have HDO := hid hdo; have HALL := hid hall; have HBG := hid hbg; have HC0 := hid hc0; have HOK := hid hok; have HLV := hid hlv
 clear hs h h1 hdo hst0 hok0 ht hre hee hact hall hbg hc0 hok hlv
 unfold actV
 go_enter Tryz.func8, Tryz.ntmps8
 go_upto_if 45 with (go_at_call 16; with_reducible refine (pick_any _ 4 _ (by omega) (by omega)).mono ?_; rintro r w' ⟨rfl, rfl⟩)
 go_cut [2] from 44 to 48 (fun s wx => s = .int .i64 lv ∧ S w0 wx (taleB b be k t :: all (recPs k.vs t.recs) :: engP be bs t.e :: blk w.heap.size 28 [.int .i64 0, .int .i64 lvl0, .int .i64 tx0, .int .i64 key0] :: L))
 case first =>
  by_cases hn : lv0 < 0
  ·have hl := HLV.out
   rw [if_pos hn] at hl
   have HL := hid hl
   clear hl
   go_wp2_with (go_at_call 16; with_reducible refine (pick_any _ 3 _ (by omega) (by omega)).mono ?_; rintro r w' ⟨rfl, rfl⟩)
   go_meet
   exact ⟨by rw [HL.out], H1.out⟩
  ·have hl := HLV.out
   rw [if_neg hn] at hl
   have HL := hid hl
   clear hl
   go_wp2_with fail
   go_meet
   exact ⟨by rw [HL.out], H1.out⟩
 ·rename World => w1
  obtain ⟨rfl, hs1⟩ := hcut
  clear H1 a0 a1 a3 c7 f7
  have c0 := HC0.out _ _ hs1
  have hs2 := hs1.conv (M := engP be bs t.e :: taleB b be k t :: all (recPs k.vs t.recs) :: blk w.heap.size 28 [.int .i64 0, .int .i64 lvl0, .int .i64 tx0, .int .i64 key0] :: L) (by simp only [all]; ac_rfl)
  have HA := hid (HALL.out _ _ hs2)
  clear hs1 hs2 HALL
  go_wp2_with fail
  with_reducible refine HA.out.mono ?_
  rintro r w2 ⟨sv, rfl, hs3⟩
  obtain ⟨av, cv, rfl, _, _, _⟩ := hs3.sl_val
  have hs4 := hs3.conv (M := taleB b be k t :: engP be bs t.e :: sl 44 2 (.slice av t.e.allV.length cv) t.e.allV.length (pcells t.e.allV) :: all (recPs k.vs t.recs) :: blk w.heap.size 28 [.int .i64 0, .int .i64 lvl0, .int .i64 tx0, .int .i64 key0] :: L) (by simp only [all]; ac_rfl)
  have c0 := HC0.out _ _ hs4
  have HB := hid (HBG.out _ _ hs4.swap)
  clear hs3 hs4 HA HBG
  go_wp2_with fail
  with_reducible refine HB.out.mono ?_
  rintro r w3 ⟨rfl, bs', hs5⟩
  have hs6 := hs5.conv (M := taleB b be k t :: engP be bs' (t.e.begin_ lv).1 :: sl 44 2 (.slice av t.e.allV.length cv) t.e.allV.length (pcells t.e.allV) :: all (recPs k.vs t.recs) :: blk w.heap.size 28 [.int .i64 0, .int .i64 lvl0, .int .i64 tx0, .int .i64 key0] :: L) (by simp only [all]; ac_rfl)
  have hbe : (t.e.begin_ lv).2.2 = 0 → (t.e.begin_ lv).2.1 = (t.recs.length : Int) + 1 := fun h => by
   rw [HOK.out.len]
   unfold Eng.begin_ at h ⊢
   split
   ·rename_i hx; rw [if_pos hx] at h; cases h
   ·rename_i hx
    rw [if_neg hx] at h
    split
    ·rename_i hx; rw [if_pos hx] at h; cases h
    ·rename_i hx
     rw [if_neg hx] at h
     split
     ·rename_i hx; rw [if_pos hx] at h; cases h
     ·rfl
  obtain ⟨E', hE'⟩ : ∃ x, (t.e.begin_ lv).1 = x := ⟨_, rfl⟩
  obtain ⟨nn, hnn⟩ : ∃ x, (t.e.begin_ lv).2.1 = x := ⟨_, rfl⟩
  obtain ⟨er, her⟩ : ∃ x, (t.e.begin_ lv).2.2 = x := ⟨_, rfl⟩
  have hbeg : t.began lv = if er = 0 then { t.marked (decide (nn ≠ (t.recs.length : Int) + 1)) with e := E', recs := t.recs ++ [⟨lv, t.e.allV, [], [], t.steps, 0⟩] } else { t with e := E' } := by unfold Tale.began; simp only [hE', hnn, her]
  rw [hE'] at hs6
  rw [hnn, her] at hbe ⊢
  by_cases h0 : er = 0
  ·have hnl := hbe h0
   rw [if_pos h0] at hbeg
   have hnb : decide (nn ≠ (t.recs.length : Int) + 1) = false := by rw [decide_eq_false_iff_not]; exact fun h => h hnl
   rw [hnb] at hbeg
   have hmk : t.marked false = t := by unfold Tale.marked; simp
   rw [hmk] at hbeg
   rw [h0, errV_0, hnl]
   have hc := hs6.tale_see.1
   have c1 := hc.level
   obtain ⟨al, cl, hlvv, hlcap, hlcap2, _⟩ := hs6.tale_see.2.1
   rw [hlvv] at c1
   have hnl2 : t.recs.length ≤ 200 := by rw [HOK.out.len]; exact HOK.out.ok.few
   have HS6 := hid hs6; have HBEG := hid hbeg
   clear hs5 hs6 hbe hbeg hnb hmk hE' hnn her h0 hnl hc HB hlvv
   unfold maxLen at hlcap2
   go_upto_region 11 with fail
   obtain ⟨i0, hi0, hz0, hy0, hx0⟩ := info_parts Tryz.info3
   obtain ⟨i1, hi1, hz1, hy1, hx1⟩ := info_parts Tryz.infoT37
   obtain ⟨i2, hi2, hz2, hy2, hx2⟩ := info_parts Tryz.infoT57
   obtain ⟨i3, hi3, hz3, hy3, hx3⟩ := info_parts Tryz.infoT65
   obtain ⟨hkl, hp1⟩ := HS6.out.tale_parts
   obtain ⟨nv, hnv⟩ : ∃ n, n = t.e.allV.length := ⟨_, rfl⟩
   obtain ⟨R0, hR0⟩ : ∃ R, R = engP be bs' E' :: sl 44 2 (.slice av nv cv) nv (pcells t.e.allV) :: all (recPs k.vs t.recs) :: blk w.heap.size 28 [.int .i64 0, .int .i64 lvl0, .int .i64 tx0, .int .i64 key0] :: L := ⟨_, rfl⟩
   rw [← hnv, ← hR0] at hp1
   rw [← hnv]
   have HNV := hid hnv
   obtain ⟨R5, hR5⟩ : ∃ R, R = all (sl 65 1 k.rv t.recs.length (k.vs.map (·.rv)) :: sl 3 1 k.bv t.recs.length (icells (t.recs.map (·.begun))) :: sl 3 1 k.wv t.recs.length (icells (t.recs.map (·.over))) :: R0) := ⟨_, rfl⟩
   have hp2 : S w0 w3 (blk b 35 (taleF be k t) :: sl 3 1 k.lv t.recs.length (icells (t.recs.map (·.level))) :: sl 37 1 k.sv t.recs.length (k.vs.map (·.sv)) :: sl 57 1 k.ov t.recs.length (k.vs.map mapV) :: R5 :: []) := hp1.conv (by rw [hR5]; simp only [all, sep_emp])
   obtain ⟨al, cl, hv1, _, _, _⟩ := hp2.tail.sl_val
   obtain ⟨as_, cs, hv2, _, _, _⟩ := hp2.tail.tail.sl_val
   obtain ⟨ao, co, hv3, _, _, _⟩ := hp2.tail.tail.tail.sl_val
   have hq : ∀ W {M : List HProp}, S w0 W (blk b 35 (taleF be k t) :: M) → W.cell? ⟨b, 1, none⟩ = some (.slice al t.recs.length cl) ∧ W.cell? ⟨b, 2, none⟩ = some (.slice as_ t.recs.length cs) ∧ W.cell? ⟨b, 3, none⟩ = some (.slice ao t.recs.length co) := fun W M h =>
    ⟨by rw [← hv1]; exact h.blk_cell 1 rfl, by rw [← hv2]; exact h.blk_cell 2 rfl, by rw [← hv3]; exact h.blk_cell 3 rfl⟩
   have hf : ∀ W {M : List HProp}, S w0 W (blk b 35 (taleF be k t) :: M) → W.cell? ⟨b, 1, none⟩ = some (.slice al t.recs.length cl) ∧ W.cell? ⟨b, 2, none⟩ = some (.slice as_ t.recs.length cs) ∧ W.cell? ⟨b, 3, none⟩ = some (.slice ao t.recs.length co) ∧ W.frozen? ⟨b, 1, none⟩ = false ∧ W.frozen? ⟨b, 2, none⟩ = false ∧ W.frozen? ⟨b, 3, none⟩ = false := fun W M h =>
    ⟨(hq W h).1, (hq W h).2.1, (hq W h).2.2, h.blk_free 1, h.blk_free 2, h.blk_free 3⟩
   have hcl : ∀ W l' s' o' (m : Nat) (Z : List HProp), S w0 W (blk b 35 (taleF be k t) :: sl 3 1 l' (t.recs.length + 1) (icells (t.recs.map (·.level)) ++ [.int .i64 lv]) :: sl 37 1 s' (t.recs.length + 1) (k.vs.map (·.sv) ++ [.slice av nv cv]) :: sl 57 1 o' (t.recs.length + 1) (k.vs.map mapV ++ [.map (some m)]) :: mp Sep.encI (fun _ => True) m [] :: R5 :: Z) →
     ∃ l2 s2 o2 m2, S w0 (((W.setCell ⟨b, 1, none⟩ l').setCell ⟨b, 2, none⟩ s').setCell ⟨b, 3, none⟩ o') (halfP b be k t l2 s2 o2 lv (.slice av nv cv) m2 :: mp Sep.encI (fun _ => True) m2 [] :: R0) := fun W l' s' o' m Z h => by
    refine ⟨l', s', o', m, ?_⟩
    have h2 : S w0 W (blk b 35 (taleF be k t) :: sl 3 1 l' (t.recs.length + 1) (icells (t.recs.map (·.level)) ++ [.int .i64 lv]) :: sl 37 1 s' (t.recs.length + 1) (k.vs.map (·.sv) ++ [.slice av nv cv]) :: sl 57 1 o' (t.recs.length + 1) (k.vs.map mapV ++ [.map (some m)]) :: sl 65 1 k.rv t.recs.length (k.vs.map (·.rv)) :: sl 3 1 k.bv t.recs.length (icells (t.recs.map (·.begun))) :: sl 3 1 k.wv t.recs.length (icells (t.recs.map (·.over))) :: mp Sep.encI (fun _ => True) m [] :: all Z :: R0) := h.conv (by rw [hR5]; simp only [all]; ac_rfl)
    have h3 := h2.half_close hkl
    exact (h3.conv (M := all Z :: halfP b be k t l' s' o' lv (.slice av nv cv) m :: mp Sep.encI (fun _ => True) m [] :: R0) (by simp only [all]; ac_rfl)).tail
   have hbnd : t.recs.length + 1 ≤ 1000000000000 := by omega
   rw [hv1, hv2, hv3] at hp2
   have HS0 := hid hp2; have HQ := hid hq; have HF := hid hf; have HCL := hid hcl; have HA := hid hbnd; have HKL := hid hkl
   clear hp1 hp2 hq hf hcl hbnd hkl hv1 hv2 hv3 HS6 hR5 hnl2 hlcap hlcap2 hnv
   go_cut [] from 76 to 105 (fun wx => ∃ l2 s2 o2 m2, S w0 wx (halfP b be k t l2 s2 o2 lv (.slice av nv cv) m2 :: mp Sep.encI (fun _ => True) m2 [] :: R0))
   case first =>
    refine region_U (S := fun w' => w'.cell? ⟨b, 1, none⟩ = some (.slice al t.recs.length cl) ∧ w'.cell? ⟨b, 2, none⟩ = some (.slice as_ t.recs.length cs) ∧ w'.cell? ⟨b, 3, none⟩ = some (.slice ao t.recs.length co)) (u := 26) (by kernel_rfl) (HQ.out _ (HS0.out.drew.nth 0 rfl)) (fun hHeld => ?_)
    refine anyU_take (i := 0) (v := ?_) rfl (by kernel_rfl) (fun _ _ _ h => h) (Or.inl ⟨by rfl, ?_⟩) hHeld ?_
    rotate_left
    ·(intro w hSw; (try dsimp only at hSw); go_simp) <;> with_reducible rfl
    try simp only [putU]
    refine anyU_pure (i := 1) (v := ?_) rfl (by kernel_rfl) (fun _ _ _ h => h) (Or.inl ⟨by rfl, ?_⟩) (fun _ => hHeld) ?_
    rotate_left
    ·(intro w _; go_simp) <;> with_reducible rfl
    try simp only [putU]
    refine anyU_pure (i := 2) (v := ?_) rfl (by kernel_rfl) (fun _ _ _ h => h) (Or.inl ⟨by rfl, ?_⟩) (fun _ => hHeld) ?_
    rotate_left
    ·(intro w _; go_simp) <;> with_reducible rfl
    try simp only [putU]
    refine anyU_take (i := 3) (v := ?_) rfl (by kernel_rfl) (fun _ _ _ h => h) (Or.inl ⟨by rfl, ?_⟩) hHeld ?_
    rotate_left
    ·(intro w hSw; (try dsimp only at hSw); go_simp) <;> with_reducible rfl
    try simp only [putU]
    refine anyU_take (i := 4) (v := ?_) rfl (by kernel_rfl) (fun _ _ _ h => h) (Or.inl ⟨by rfl, ?_⟩) hHeld ?_
    rotate_left
    ·(intro w hSw; (try dsimp only at hSw); go_simp) <;> with_reducible rfl
    try simp only [putU]
    refine anyU_take (i := 5) (v := ?_) rfl (by kernel_rfl) (fun _ _ _ h => h) (Or.inl ⟨by rfl, ?_⟩) hHeld ?_
    rotate_left
    ·(intro w hSw; (try dsimp only at hSw); go_simp) <;> with_reducible rfl
    try simp only [putU]
    refine anyU_take (i := 6) (v := ?_) rfl (by kernel_rfl) (fun _ _ _ h => h) (Or.inl ⟨by rfl, ?_⟩) hHeld ?_
    rotate_left
    ·(intro w hSw; (try dsimp only at hSw); go_simp) <;> with_reducible rfl
    try simp only [putU]
    refine anyU_take (i := 7) (v := ?_) rfl (by kernel_rfl) (fun _ _ _ h => h) (Or.inl ⟨by rfl, ?_⟩) hHeld ?_
    rotate_left
    ·(intro w hSw; (try dsimp only at hSw); go_simp) <;> with_reducible rfl
    try simp only [putU]
    refine anyU_pure (i := 10) (v := ?_) rfl (by kernel_rfl) (fun _ _ _ h => h) (Or.inl ⟨by rfl, ?_⟩) (fun _ => hHeld) ?_
    rotate_left
    ·(intro w _; go_simp) <;> with_reducible rfl
    try simp only [putU]
    refine anyU_pure (i := 11) (v := ?_) rfl (by kernel_rfl) (fun _ _ _ h => h) (Or.inl ⟨by rfl, ?_⟩) (fun _ => hHeld) ?_
    rotate_left
    ·(intro w _; go_simp) <;> with_reducible rfl
    try simp only [putU]
    refine anyU_pure (i := 12) (v := ?_) rfl (by kernel_rfl) (fun _ _ _ h => h) (Or.inl ⟨by rfl, ?_⟩) (fun _ => hHeld) ?_
    rotate_left
    ·(intro w _; go_simp) <;> with_reducible rfl
    try simp only [putU]
    refine anyU_take (i := 13) (v := ?_) rfl (by kernel_rfl) (fun _ _ _ h => h) (Or.inl ⟨by rfl, ?_⟩) hHeld ?_
    rotate_left
    ·(intro w hSw; (try dsimp only at hSw); go_simp) <;> with_reducible rfl
    try simp only [putU]
    refine anyU_pure (i := 14) (v := ?_) rfl (by kernel_rfl) (fun _ _ _ h => h) (Or.inl ⟨by rfl, ?_⟩) (fun _ => hHeld) ?_
    rotate_left
    ·(intro w _; go_simp) <;> with_reducible rfl
    try simp only [putU]
    refine anyU_pure (i := 17) (v := ?_) rfl (by kernel_rfl) (fun _ _ _ h => h) (Or.inl ⟨by rfl, ?_⟩) (fun _ => hHeld) ?_
    rotate_left
    ·(intro w _; go_simp) <;> with_reducible rfl
    try simp only [putU]
    refine anyU_pure (i := 18) (v := ?_) rfl (by kernel_rfl) (fun _ _ _ h => h) (Or.inl ⟨by rfl, ?_⟩) (fun _ => hHeld) ?_
    rotate_left
    ·(intro w _; go_simp) <;> with_reducible rfl
    try simp only [putU]
    refine anyU_pure (i := 19) (v := ?_) rfl (by kernel_rfl) (fun _ _ _ h => h) (Or.inl ⟨by rfl, ?_⟩) (fun _ => hHeld) ?_
    rotate_left
    ·(intro w _; go_simp) <;> with_reducible rfl
    try simp only [putU]
    refine anyU_take (i := 20) (v := ?_) rfl (by kernel_rfl) (fun _ _ _ h => h) (Or.inl ⟨by rfl, ?_⟩) hHeld ?_
    rotate_left
    ·(intro w hSw; (try dsimp only at hSw); go_simp) <;> with_reducible rfl
    try simp only [putU]
    have HS := HS0.out.drew
    clear hHeld HS0
    refine region_a (u := 26) (k := 9) (hkeep := fun w M h => HQ.out _ h) HA.out
     30 3 i0 _ 8 Tryz.underlying30 hi0 hz0 hy0 hx0 rfl (by decide) al cl (icells (t.recs.map (·.level))) (.int .i64 lv) rfl ⟨(Nat.le_of_ble_eq_true (by kernel_rfl)), rfl⟩ ⟨(Nat.le_of_ble_eq_true (by kernel_rfl)), rfl⟩
     31 37 i1 _ 24 Tryz.underlying31 hi1 hz1 hy1 hx1 rfl (by decide) as_ cs (k.vs.map (·.sv)) (.slice av nv cv) rfl ⟨(Nat.le_of_ble_eq_true (by kernel_rfl)), rfl⟩ ⟨(Nat.le_of_ble_eq_true (by kernel_rfl)), rfl⟩
     32 57 i2 _ 8 Tryz.underlying32 hi2 hz2 hy2 hx2 rfl (by decide) ao co (k.vs.map mapV) ⟨(Nat.le_of_ble_eq_true (by kernel_rfl)), rfl⟩
     _ rfl rfl rfl rfl (Nat.le_of_ble_eq_true (by kernel_rfl))
     _ rfl rfl rfl rfl
     _ rfl rfl rfl rfl (Nat.le_of_ble_eq_true (by kernel_rfl))
     _ rfl rfl rfl rfl
     _ _ rfl rfl rfl rfl (Nat.le_of_ble_eq_true (by kernel_rfl))
     _ rfl rfl rfl rfl (Nat.le_of_ble_eq_true (by kernel_rfl))
     _ rfl rfl rfl rfl
     (by kernel_rfl) (by kernel_rfl) (by kernel_rfl) (by kernel_rfl) (by kernel_rfl) (by kernel_rfl) (by kernel_rfl) (by kernel_rfl) (by kernel_rfl) (by kernel_rfl) (by kernel_rfl) (by kernel_rfl) (by kernel_rfl) (by kernel_rfl) (by kernel_rfl) (by kernel_rfl) (by kernel_rfl) (by kernel_rfl) (by kernel_rfl) (by kernel_rfl) (by kernel_rfl) ?_ _ HS
    clear HS
    intro w5 b1 v1 b2 v2 m3 b3 v3 hs
    obtain ⟨q1, z1, rfl, _, _, _⟩ := (hs.nth 1 rfl).sl_val
    obtain ⟨q2, z2, rfl, _, _, _⟩ := (hs.nth 2 rfl).sl_val
    obtain ⟨q3, z3, rfl, _, _, _⟩ := (hs.nth 3 rfl).sl_val
    have HS := hid hs
    clear hs
    try simp only [putU]
    refine anyU_pure (i := 24) (v := ?_) rfl (by kernel_rfl) (fun _ _ _ h => h) (Or.inl ⟨by rfl, ?_⟩) (fun _ => (HQ.out _ (HS.out.nth 0 rfl))) ?_
    rotate_left
    ·(intro w _; go_simp) <;> with_reducible rfl
    try simp only [putU]
    refine anyU_take (i := 25) (v := ?_) rfl (by kernel_rfl) (fun _ _ _ h => h) (Or.inl ⟨by rfl, ?_⟩) (HQ.out _ (HS.out.nth 0 rfl)) ?_
    rotate_left
    ·(intro w hSw; (try dsimp only at hSw); go_simp) <;> with_reducible rfl
    try simp only [putU]
    refine anyU_next (rs := [26]) (by kernel_rfl) (by simp) ?_
    refine NextU.cons rfl (fun K hK => ?_) NextU.nil
    have qq := HF.out _ (HS.out.nth 0 rfl)
    obtain ⟨q1, q2, q3, q4, q5, q6⟩ := qq
    go_simp
    refine hK.out _ _ goneU ?_
    clear hK K q1 q2 q3 q4 q5 q6
    refine anyU_pure (i := 27) (v := ?_) rfl (by kernel_rfl) (fun _ _ _ h => h) (Or.inl ⟨by rfl, ?_⟩) goneU ?_
    rotate_left
    ·(intro w _; go_simp) <;> with_reducible rfl
    try simp only [putU]
    refine anyU_pure (i := 28) (v := ?_) rfl (by kernel_rfl) (fun _ _ _ h => h) (Or.inl ⟨by rfl, ?_⟩) goneU ?_
    rotate_left
    ·(intro w _; go_simp) <;> with_reducible rfl
    try simp only [putU]
    refine anyU_next (rs := [29]) (by kernel_rfl) (by simp) ?_
    refine NextU.cons rfl (fun K hK => ?_) NextU.nil
    have qq := HF.out _ (HS.out.nth 0 rfl)
    obtain ⟨q1, q2, q3, q4, q5, q6⟩ := qq
    go_simp
    refine hK.out _ _ goneU ?_
    clear hK K q1 q2 q3 q4 q5 q6
    refine anyU_pure (i := 30) (v := ?_) rfl (by kernel_rfl) (fun _ _ _ h => h) (Or.inl ⟨by rfl, ?_⟩) goneU ?_
    rotate_left
    ·(intro w _; go_simp) <;> with_reducible rfl
    try simp only [putU]
    refine anyU_pure (i := 31) (v := ?_) rfl (by kernel_rfl) (fun _ _ _ h => h) (Or.inl ⟨by rfl, ?_⟩) goneU ?_
    rotate_left
    ·(intro w _; go_simp) <;> with_reducible rfl
    try simp only [putU]
    refine anyU_next (rs := [32]) (by kernel_rfl) (by simp) ?_
    refine NextU.cons rfl (fun K hK => ?_) NextU.nil
    have qq := HF.out _ (HS.out.nth 0 rfl)
    obtain ⟨q1, q2, q3, q4, q5, q6⟩ := qq
    go_simp
    refine hK.out _ _ goneU ?_
    clear hK K q1 q2 q3 q4 q5 q6
    refine anyU_done (by kernel_rfl) ?_ _
    go_wp2_with fail
    go_meet
    exact HCL.out _ _ _ _ m3 _ HS.out
   ·rename World => wX
    obtain ⟨l2, s2, o2, m2, hs7⟩ := hcut
    obtain ⟨hkl, hp1⟩ := hs7.half_parts
    clear HS0 HQ HF HCL
    have c4 := hp1.rot4.blk_cell 4 rfl
    obtain ⟨X5, hX5⟩ : ∃ X, X = blk b 35 [.pointer (some ⟨be, 0, none⟩), l2, s2, o2, k.rv, k.bv, k.wv, .int .i64 t.steps, .int .i64 t.n, .bool t.broken] := ⟨_, rfl⟩
    obtain ⟨R6, hR6⟩ : ∃ R, R = all (sl 3 1 l2 (t.recs.length + 1) (icells (t.recs.map (·.level)) ++ [.int .i64 lv]) :: sl 37 1 s2 (t.recs.length + 1) (k.vs.map (·.sv) ++ [.slice av nv cv]) :: sl 57 1 o2 (t.recs.length + 1) (k.vs.map mapV ++ [.map (some m2)]) :: mp Sep.encI (fun _ => True) m2 [] :: R0) := ⟨_, rfl⟩
    have hp2 : S w0 wX (X5 :: sl 65 1 k.rv t.recs.length (k.vs.map (·.rv)) :: sl 3 1 k.bv t.recs.length (icells (t.recs.map (·.begun))) :: sl 3 1 k.wv t.recs.length (icells (t.recs.map (·.over))) :: R6 :: []) := hp1.conv (by rw [hX5, hR6]; simp only [all, sep_emp]; ac_rfl)
    obtain ⟨ar, cr, hv1, _, _, _⟩ := hp2.tail.sl_val
    obtain ⟨ab, cb, hv2, _, _, _⟩ := hp2.tail.tail.sl_val
    obtain ⟨aw, cw, hv3, _, _, _⟩ := hp2.tail.tail.tail.sl_val
    have hq : ∀ W {M : List HProp}, S w0 W (X5 :: M) → W.cell? ⟨b, 4, none⟩ = some (.slice ar t.recs.length cr) ∧ W.cell? ⟨b, 5, none⟩ = some (.slice ab t.recs.length cb) ∧ W.cell? ⟨b, 6, none⟩ = some (.slice aw t.recs.length cw) ∧ W.cell? ⟨b, 7, none⟩ = some (.int .i64 t.steps) := fun W M h => by
     rw [hX5] at h
     exact ⟨by rw [← hv1]; exact h.blk_cell 4 rfl, by rw [← hv2]; exact h.blk_cell 5 rfl, by rw [← hv3]; exact h.blk_cell 6 rfl, h.blk_cell 7 rfl⟩
    have hf : ∀ W {M : List HProp}, S w0 W (X5 :: M) → W.cell? ⟨b, 4, none⟩ = some (.slice ar t.recs.length cr) ∧ W.cell? ⟨b, 5, none⟩ = some (.slice ab t.recs.length cb) ∧ W.cell? ⟨b, 6, none⟩ = some (.slice aw t.recs.length cw) ∧ W.frozen? ⟨b, 4, none⟩ = false ∧ W.frozen? ⟨b, 5, none⟩ = false ∧ W.frozen? ⟨b, 6, none⟩ = false := fun W M h => by
     obtain ⟨g1, g2, g3, _⟩ := hq W h
     rw [hX5] at h
     exact ⟨g1, g2, g3, h.blk_free 4, h.blk_free 5, h.blk_free 6⟩
    have hcl : ∀ W r' b' v' (Z : List HProp), S w0 W (X5 :: sl 65 1 r' (t.recs.length + 1) (k.vs.map (·.rv) ++ [.slice none 0 0]) :: sl 3 1 b' (t.recs.length + 1) (icells (t.recs.map (·.begun)) ++ [.int .i64 t.steps]) :: sl 3 1 v' (t.recs.length + 1) (icells (t.recs.map (·.over)) ++ [.int .i64 0]) :: R6 :: Z) →
      S w0 (((W.setCell ⟨b, 4, none⟩ r').setCell ⟨b, 5, none⟩ b').setCell ⟨b, 6, none⟩ v') (tale2 b be { t with e := E', recs := t.recs ++ [⟨lv, t.e.allV, [], [], t.steps, 0⟩] } :: L) := fun W r' b' v' Z h => by
     have h2 := h.conv (M := sl 65 1 r' (t.recs.length + 1) (k.vs.map (·.rv) ++ [.slice none 0 0]) :: sl 3 1 b' (t.recs.length + 1) (icells (t.recs.map (·.begun)) ++ [.int .i64 t.steps]) :: sl 3 1 v' (t.recs.length + 1) (icells (t.recs.map (·.over)) ++ [.int .i64 0]) ::
      blk b 35 [.pointer (some ⟨be, 0, none⟩), l2, s2, o2, k.rv, k.bv, k.wv, .int .i64 t.steps, .int .i64 t.n, .bool t.broken] :: sl 3 1 l2 (t.recs.length + 1) (icells (t.recs.map (·.level)) ++ [.int .i64 lv]) :: sl 37 1 s2 (t.recs.length + 1) (k.vs.map (·.sv) ++ [.slice av nv cv]) :: sl 57 1 o2 (t.recs.length + 1) (k.vs.map mapV ++ [.map (some m2)]) ::
      all (recPs k.vs t.recs) :: mp Sep.encI (fun _ => True) m2 [] :: sl 44 2 (.slice av nv cv) t.e.allV.length (pcells t.e.allV) :: engP be bs' E' :: blk w.heap.size 28 [.int .i64 0, .int .i64 lvl0, .int .i64 tx0, .int .i64 key0] :: all Z :: L) (by rw [hX5, hR6, hR0, HNV.out]; simp only [all]; ac_rfl)
     obtain ⟨k', h3⟩ := S.whole_close hkl h2
     have h4 := h3.conv (M := blk w.heap.size 28 [.int .i64 0, .int .i64 lvl0, .int .i64 tx0, .int .i64 key0] :: all Z :: taleB b be k' { t with recs := t.recs ++ [⟨lv, t.e.allV, [], [], t.steps, 0⟩] } :: all (recPs k'.vs (t.recs ++ [⟨lv, t.e.allV, [], [], t.steps, 0⟩])) :: engP be bs' E' :: L) (by simp only [all]; ac_rfl)
     exact S.t2_shut (t := { t with e := E', recs := t.recs ++ [⟨lv, t.e.allV, [], [], t.steps, 0⟩] }) h4.tail.tail
    rw [hv1, hv2, hv3] at hp2
    have HS0 := hid hp2; have HQ := hid hq; have HF := hid hf; have HCL := hid hcl
    clear hs7 hp1 hp2 hq hf hcl hkl hv1 hv2 hv3 hX5 hR6
    go_upto_region 12 with fail
    clear c4
    go_cut [] from 106 to 136 (fun wx => S w0 wx (tale2 b be { t with e := E', recs := t.recs ++ [⟨lv, t.e.allV, [], [], t.steps, 0⟩] } :: L))
    case first =>
     refine region_U (S := fun w' => w'.cell? ⟨b, 4, none⟩ = some (.slice ar t.recs.length cr) ∧ w'.cell? ⟨b, 5, none⟩ = some (.slice ab t.recs.length cb) ∧ w'.cell? ⟨b, 6, none⟩ = some (.slice aw t.recs.length cw) ∧ w'.cell? ⟨b, 7, none⟩ = some (.int .i64 t.steps)) (u := 27) (by kernel_rfl) (HQ.out _ (HS0.out.drew.nth 0 rfl)) (fun hHeld => ?_)
     refine anyU_take (i := 0) (v := ?_) rfl (by kernel_rfl) (fun _ _ _ h => h) (Or.inl ⟨by rfl, ?_⟩) hHeld ?_
     rotate_left
     ·(intro w hSw; (try dsimp only at hSw); go_simp) <;> with_reducible rfl
     try simp only [putU]
     refine anyU_pure (i := 1) (v := ?_) rfl (by kernel_rfl) (fun _ _ _ h => h) (Or.inl ⟨by rfl, ?_⟩) (fun _ => hHeld) ?_
     rotate_left
     ·(intro w _; go_simp) <;> with_reducible rfl
     try simp only [putU]
     refine anyU_pure (i := 2) (v := ?_) rfl (by kernel_rfl) (fun _ _ _ h => h) (Or.inl ⟨by rfl, ?_⟩) (fun _ => hHeld) ?_
     rotate_left
     ·(intro w _; go_simp) <;> with_reducible rfl
     try simp only [putU]
     refine anyU_take (i := 3) (v := ?_) rfl (by kernel_rfl) (fun _ _ _ h => h) (Or.inl ⟨by rfl, ?_⟩) hHeld ?_
     rotate_left
     ·(intro w hSw; (try dsimp only at hSw); go_simp) <;> with_reducible rfl
     try simp only [putU]
     refine anyU_take (i := 4) (v := ?_) rfl (by kernel_rfl) (fun _ _ _ h => h) (Or.inl ⟨by rfl, ?_⟩) hHeld ?_
     rotate_left
     ·(intro w hSw; (try dsimp only at hSw); go_simp) <;> with_reducible rfl
     try simp only [putU]
     refine anyU_take (i := 5) (v := ?_) rfl (by kernel_rfl) (fun _ _ _ h => h) (Or.inl ⟨by rfl, ?_⟩) hHeld ?_
     rotate_left
     ·(intro w hSw; (try dsimp only at hSw); go_simp) <;> with_reducible rfl
     try simp only [putU]
     refine anyU_take (i := 6) (v := ?_) rfl (by kernel_rfl) (fun _ _ _ h => h) (Or.inl ⟨by rfl, ?_⟩) hHeld ?_
     rotate_left
     ·(intro w hSw; (try dsimp only at hSw); go_simp) <;> with_reducible rfl
     try simp only [putU]
     refine anyU_pure (i := 9) (v := ?_) rfl (by kernel_rfl) (fun _ _ _ h => h) (Or.inl ⟨by rfl, ?_⟩) (fun _ => hHeld) ?_
     rotate_left
     ·(intro w _; go_simp) <;> with_reducible rfl
     try simp only [putU]
     refine anyU_pure (i := 10) (v := ?_) rfl (by kernel_rfl) (fun _ _ _ h => h) (Or.inl ⟨by rfl, ?_⟩) (fun _ => hHeld) ?_
     rotate_left
     ·(intro w _; go_simp) <;> with_reducible rfl
     try simp only [putU]
     refine anyU_pure (i := 11) (v := ?_) rfl (by kernel_rfl) (fun _ _ _ h => h) (Or.inl ⟨by rfl, ?_⟩) (fun _ => hHeld) ?_
     rotate_left
     ·(intro w _; go_simp) <;> with_reducible rfl
     try simp only [putU]
     refine anyU_take (i := 12) (v := ?_) rfl (by kernel_rfl) (fun _ _ _ h => h) (Or.inl ⟨by rfl, ?_⟩) hHeld ?_
     rotate_left
     ·(intro w hSw; (try dsimp only at hSw); go_simp) <;> with_reducible rfl
     try simp only [putU]
     refine anyU_pure (i := 13) (v := ?_) rfl (by kernel_rfl) (fun _ _ _ h => h) (Or.inl ⟨by rfl, ?_⟩) (fun _ => hHeld) ?_
     rotate_left
     ·(intro w _; go_simp) <;> with_reducible rfl
     try simp only [putU]
     refine anyU_pure (i := 14) (v := ?_) rfl (by kernel_rfl) (fun _ _ _ h => h) (Or.inl ⟨by rfl, ?_⟩) (fun _ => hHeld) ?_
     rotate_left
     ·(intro w _; go_simp) <;> with_reducible rfl
     try simp only [putU]
     refine anyU_pure (i := 15) (v := ?_) rfl (by kernel_rfl) (fun _ _ _ h => h) (Or.inl ⟨by rfl, ?_⟩) (fun _ => hHeld) ?_
     rotate_left
     ·(intro w _; go_simp) <;> with_reducible rfl
     try simp only [putU]
     refine anyU_take (i := 16) (v := ?_) rfl (by kernel_rfl) (fun _ _ _ h => h) (Or.inl ⟨by rfl, ?_⟩) hHeld ?_
     rotate_left
     ·(intro w hSw; (try dsimp only at hSw); go_simp) <;> with_reducible rfl
     try simp only [putU]
     refine anyU_pure (i := 19) (v := ?_) rfl (by kernel_rfl) (fun _ _ _ h => h) (Or.inl ⟨by rfl, ?_⟩) (fun _ => hHeld) ?_
     rotate_left
     ·(intro w _; go_simp) <;> with_reducible rfl
     try simp only [putU]
     refine anyU_pure (i := 20) (v := ?_) rfl (by kernel_rfl) (fun _ _ _ h => h) (Or.inl ⟨by rfl, ?_⟩) (fun _ => hHeld) ?_
     rotate_left
     ·(intro w _; go_simp) <;> with_reducible rfl
     try simp only [putU]
     refine anyU_pure (i := 21) (v := ?_) rfl (by kernel_rfl) (fun _ _ _ h => h) (Or.inl ⟨by rfl, ?_⟩) (fun _ => hHeld) ?_
     rotate_left
     ·(intro w _; go_simp) <;> with_reducible rfl
     try simp only [putU]
     refine anyU_take (i := 22) (v := ?_) rfl (by kernel_rfl) (fun _ _ _ h => h) (Or.inl ⟨by rfl, ?_⟩) hHeld ?_
     rotate_left
     ·(intro w hSw; (try dsimp only at hSw); go_simp) <;> with_reducible rfl
     try simp only [putU]
     have HS := HS0.out.drew
     clear hHeld HS0
     refine region_b (u := 27) (k := 9) (hkeep := fun w M h => HQ.out _ h) HA.out
      33 65 i3 _ 24 Tryz.underlying33 hi3 hz3 hy3 hx3 rfl (by decide) ar cr (k.vs.map (·.rv)) (.slice none 0 0) rfl ⟨(Nat.le_of_ble_eq_true (by kernel_rfl)), rfl⟩
      30 3 i0 _ 8 Tryz.underlying30 hi0 hz0 hy0 hx0 rfl (by decide) ab cb (icells (t.recs.map (·.begun))) (.int .i64 t.steps) rfl ⟨(Nat.le_of_ble_eq_true (by kernel_rfl)), rfl⟩ ⟨(Nat.le_of_ble_eq_true (by kernel_rfl)), rfl⟩
      30 3 i0 _ 8 Tryz.underlying30 hi0 hz0 hy0 hx0 rfl (by decide) aw cw (icells (t.recs.map (·.over))) (.int .i64 0) rfl ⟨(Nat.le_of_ble_eq_true (by kernel_rfl)), rfl⟩
      _ rfl rfl rfl rfl (Nat.le_of_ble_eq_true (by kernel_rfl))
      _ rfl rfl rfl rfl
      _ rfl rfl rfl rfl (Nat.le_of_ble_eq_true (by kernel_rfl))
      _ rfl rfl rfl rfl
      _ rfl rfl rfl rfl (Nat.le_of_ble_eq_true (by kernel_rfl))
      _ rfl rfl rfl rfl
      (by kernel_rfl) (by kernel_rfl) (by kernel_rfl) (by kernel_rfl) (by kernel_rfl) (by kernel_rfl) (by kernel_rfl) (by kernel_rfl) (by kernel_rfl) (by kernel_rfl) (by kernel_rfl) (by kernel_rfl) (by kernel_rfl) (by kernel_rfl) ?_ _ HS
     clear HS
     intro w5 b1 v1 b2 v2 b3 v3 hs
     obtain ⟨q1, z1, rfl, _, _, _⟩ := (hs.nth 1 rfl).sl_val
     obtain ⟨q2, z2, rfl, _, _, _⟩ := (hs.nth 2 rfl).sl_val
     obtain ⟨q3, z3, rfl, _, _, _⟩ := (hs.nth 3 rfl).sl_val
     have HS := hid hs
     clear hs
     try simp only [putU]
     refine anyU_pure (i := 25) (v := ?_) rfl (by kernel_rfl) (fun _ _ _ h => h) (Or.inl ⟨by rfl, ?_⟩) (fun _ => (HQ.out _ (HS.out.nth 0 rfl))) ?_
     rotate_left
     ·(intro w _; go_simp) <;> with_reducible rfl
     try simp only [putU]
     refine anyU_take (i := 26) (v := ?_) rfl (by kernel_rfl) (fun _ _ _ h => h) (Or.inl ⟨by rfl, ?_⟩) (HQ.out _ (HS.out.nth 0 rfl)) ?_
     rotate_left
     ·(intro w hSw; (try dsimp only at hSw); go_simp) <;> with_reducible rfl
     try simp only [putU]
     refine anyU_next (rs := [27]) (by kernel_rfl) (by simp) ?_
     refine NextU.cons rfl (fun K hK => ?_) NextU.nil
     have qq := HF.out _ (HS.out.nth 0 rfl)
     obtain ⟨q1, q2, q3, q4, q5, q6⟩ := qq
     go_simp
     refine hK.out _ _ goneU ?_
     clear hK K q1 q2 q3 q4 q5 q6
     refine anyU_pure (i := 28) (v := ?_) rfl (by kernel_rfl) (fun _ _ _ h => h) (Or.inl ⟨by rfl, ?_⟩) goneU ?_
     rotate_left
     ·(intro w _; go_simp) <;> with_reducible rfl
     try simp only [putU]
     refine anyU_pure (i := 29) (v := ?_) rfl (by kernel_rfl) (fun _ _ _ h => h) (Or.inl ⟨by rfl, ?_⟩) goneU ?_
     rotate_left
     ·(intro w _; go_simp) <;> with_reducible rfl
     try simp only [putU]
     refine anyU_next (rs := [30]) (by kernel_rfl) (by simp) ?_
     refine NextU.cons rfl (fun K hK => ?_) NextU.nil
     have qq := HF.out _ (HS.out.nth 0 rfl)
     obtain ⟨q1, q2, q3, q4, q5, q6⟩ := qq
     go_simp
     refine hK.out _ _ goneU ?_
     clear hK K q1 q2 q3 q4 q5 q6
     refine anyU_pure (i := 31) (v := ?_) rfl (by kernel_rfl) (fun _ _ _ h => h) (Or.inl ⟨by rfl, ?_⟩) goneU ?_
     rotate_left
     ·(intro w _; go_simp) <;> with_reducible rfl
     try simp only [putU]
     refine anyU_pure (i := 32) (v := ?_) rfl (by kernel_rfl) (fun _ _ _ h => h) (Or.inl ⟨by rfl, ?_⟩) goneU ?_
     rotate_left
     ·(intro w _; go_simp) <;> with_reducible rfl
     try simp only [putU]
     refine anyU_next (rs := [33]) (by kernel_rfl) (by simp) ?_
     refine NextU.cons rfl (fun K hK => ?_) NextU.nil
     have qq := HF.out _ (HS.out.nth 0 rfl)
     obtain ⟨q1, q2, q3, q4, q5, q6⟩ := qq
     go_simp
     refine hK.out _ _ goneU ?_
     clear hK K q1 q2 q3 q4 q5 q6
     refine anyU_done (by kernel_rfl) ?_ _
     go_wp2_with fail
     go_meet
     exact HCL.out _ _ _ _ _ HS.out
    ·rename World => wY
     have H9 := hid hcut
     go_wp2_with fail
     refine bodyPost_ret (v := .tuple #[]) (by simp [results, Tryz.results8, go_sem]) rfl ?_
     exact ⟨rfl, by rw [HDO.out, HBEG.out]; exact H9.out⟩
  ·rw [if_neg h0] at hbeg
   rw [errV_ne h0]
   have hs7 : S w0 w3 (taleB b be k { t with e := E' } :: all (recPs k.vs t.recs) :: engP be bs' E' :: L) := by
    have h8 := hs6.conv (M := sl 44 2 (.slice av t.e.allV.length cv) t.e.allV.length (pcells t.e.allV) :: blk w.heap.size 28 [.int .i64 0, .int .i64 lvl0, .int .i64 tx0, .int .i64 key0] :: taleB b be k t :: all (recPs k.vs t.recs) :: engP be bs' E' :: L) (by simp only [all]; ac_rfl)
    exact h8.tail.tail
   have HF := hid (S.t2_shut (t := { t with e := E' }) hs7); have HBEG := hid hbeg
   clear hs5 hs6 hs7 hbe hbeg hE' hnn her h0 HB
   go_wp2_with fail
   refine bodyPost_ret (v := .tuple #[]) (by simp [results, Tryz.results8, go_sem]) rfl ?_
   exact ⟨rfl, by rw [HDO.out, HBEG.out]; exact HF.out⟩
end Go.Proofs.YtcbokjocahnlcaaGreatDoor
/- interleafkeep's tale: does, when it sweeps, when there is none, and when one of the last few does something. -/
namespace Go.Proofs.YtcbokjocahnlcaaGreatDoor
open Go Go.RowKit Go.Sep
theorem Tryz.info67 : (Tryz.prog.info? 67).map (fun i => (i.zero, i.size, i.bytes)) = some (some (.agg #[.int .i64 0, .int .i64 0]), 2, 16) := by kernel_rfl
theorem act_see {w0 W : World} {M : List HProp} {g : Nat} {A B C : HProp} {what lvl tx key : Int} (h : S w0 W (A :: B :: C :: blk g 28 [.int .i64 what, .int .i64 lvl, .int .i64 tx, .int .i64 key] :: M)) :
  W.cell? ⟨g, 0, none⟩ = some (.int .i64 what) ∧ W.cell? ⟨g, 1, none⟩ = some (.int .i64 lvl) ∧ W.cell? ⟨g, 2, none⟩ = some (.int .i64 tx) ∧ W.cell? ⟨g, 3, none⟩ = some (.int .i64 key) := by
 have h2 := h.rot4
 exact ⟨h2.blk_cell 0 rfl, h2.blk_cell 1 rfl, h2.blk_cell 2 rfl, h2.blk_cell 3 rfl⟩
set_option linter.unusedSimpArgs false in
set_option maxRecDepth 100000 in
set_option maxHeartbeats 16000000 in
theorem does_sweep (w0 w : World) (b be : Nat) (t0 : Tale) (lvl0 tx0 key0 lv0 : Int) (L : List HProp) (N : Nat) (hok0 : TaleOk N t0) (hst0 : t0.steps < 1000000) (hs : S w0 w (tale2 b be t0 :: L)) :
  Calls Tryz.prog 8 #[.pointer (some ⟨b, 0, none⟩), actV 5 lvl0 tx0 key0, .int .i64 lv0] w fun r w' => r = .returned (.tuple #[]) ∧ S w0 w' (tale2 b be (t0.does ⟨5, lvl0, tx0, key0⟩ lv0) :: L) := by
 obtain ⟨bs, k, h⟩ := hs.t2_open
 obtain ⟨⟨c7, f7⟩, h1⟩ := does_pre (what := 5) (level := lvl0) (tx := tx0) (key := key0) h
 have hdo : t0.does ⟨5, lvl0, tx0, key0⟩ lv0 = { t0.step with e := t0.e.sweep.1 } := rfl
 have hst := hok0.steps
 obtain ⟨a0, a1, a2, a3⟩ := act_see h1
 have hsw := fun W M h => sweep_eng w0 W be bs t0.e M N [] hok0.ok h
 have c0 := h1.tale_see.1.e
 have h2 := hsw _ _ h1.rot3
 have H2 := hid h2; have HDO := hid hdo
 clear hs h h1 hdo hok0 hsw h2
 unfold actV
 go_enter Tryz.func8, Tryz.ntmps8
 go_upto_if 139 with (go_at_call 16; with_reducible refine (pick_any _ 4 _ (by omega) (by omega)).mono ?_; rintro r w' ⟨rfl, rfl⟩)
 go_wp2_with fail
 with_reducible refine H2.out.mono ?_
 rintro r w2 ⟨rfl, hs2⟩
 have H3 := hid (S.t2_shut (t := { t0.step with e := t0.e.sweep.1 }) (bs := bs) (k := k) (b := b) (be := be) (w0 := w0) (w := w2) (L := blk w.heap.size 28 [.int .i64 5, .int .i64 lvl0, .int .i64 tx0, .int .i64 key0] :: L) (hs2.conv (by simp only [all]; ac_rfl)))
 clear hs2 H2 a0 a1 a2 a3 c0 c7 f7
 go_wp2_with fail
 refine bodyPost_ret (v := .tuple #[]) (by simp [results, Tryz.results8, go_sem]) rfl ?_
 exact ⟨rfl, by rw [HDO.out]; exact H3.out.swap.tail⟩
set_option linter.unusedSimpArgs false in
set_option maxRecDepth 100000 in
set_option maxHeartbeats 16000000 in
theorem does_none (w0 w : World) (b be : Nat) (t0 : Tale) (what lvl0 tx0 key0 lv0 : Int) (L : List HProp) (N : Nat) (hok0 : TaleOk N t0) (hst0 : t0.steps < 1000000) (hw0 : what ≠ 0) (hw5 : what ≠ 5) (hrn : t0.recs = []) (hs : S w0 w (tale2 b be t0 :: L)) :
  Calls Tryz.prog 8 #[.pointer (some ⟨b, 0, none⟩), actV what lvl0 tx0 key0, .int .i64 lv0] w fun r w' => r = .returned (.tuple #[]) ∧ S w0 w' (tale2 b be (t0.does ⟨what, lvl0, tx0, key0⟩ lv0) :: L) := by
 obtain ⟨bs, k, h⟩ := hs.t2_open
 obtain ⟨⟨c7, f7⟩, h1⟩ := does_pre (what := what) (level := lvl0) (tx := tx0) (key := key0) h
 have hdo : t0.does ⟨what, lvl0, tx0, key0⟩ lv0 = t0.step := by
  unfold Tale.does
  simp only [if_neg hw0, if_neg hw5, hrn, if_true]
  unfold Tale.step
  rw [hrn]
 have hst := hok0.steps
 obtain ⟨a0, a1, a2, a3⟩ := act_see h1
 have c1 := h1.tale_see.1.level
 obtain ⟨al, cl, hlv, _, _, _⟩ := h1.tale_see.2.1
 have hn0 : t0.step.recs.length = 0 := by show t0.recs.length = 0; rw [hrn]; rfl
 rw [hlv, hn0] at c1
 have hb0 : (what == 0) = false := by simpa using hw0
 have hb5 : (what == 5) = false := by simpa using hw5
 have H3 := hid (S.t2_shut (t := t0.step) (bs := bs) (k := k) (b := b) (be := be) (w0 := w0) (L := blk w.heap.size 28 [.int .i64 what, .int .i64 lvl0, .int .i64 tx0, .int .i64 key0] :: L) h1); have HDO := hid hdo
 clear hs h h1 hdo hok0 hw0 hw5 hrn hlv hn0
 unfold actV
 go_enter Tryz.func8, Tryz.ntmps8
 go_upto_if 139 with (go_at_call 16; with_reducible refine (pick_any _ 4 _ (by omega) (by omega)).mono ?_; rintro r w' ⟨rfl, rfl⟩)
 go_wp2_with fail
 refine bodyPost_ret (v := .tuple #[]) (by simp [results, Tryz.results8, go_sem]) rfl ?_
 exact ⟨rfl, by rw [HDO.out]; exact H3.out.swap.tail⟩
end Go.Proofs.YtcbokjocahnlcaaGreatDoor
namespace Go.Proofs.YtcbokjocahnlcaaGreatDoor
open Go Go.RowKit Go.Sep
set_option linter.unusedSimpArgs false in
set_option maxRecDepth 100000 in
set_option maxHeartbeats 16000000 in
theorem does_act1 (w0 w : World) (b be : Nat) (t0 : Tale) (what lvl0 tx0 key0 lv0 : Int) (L : List HProp) (N : Nat) (hE : ErrT w0) (hwx : what = 1) (hok0 : TaleOk N t0) (hst0 : t0.steps < 1000000) (hw0 : what ≠ 0) (hw5 : what ≠ 5) (hrn : t0.recs ≠ []) (hs : S w0 w (tale2 b be t0 :: L)) :
  Calls Tryz.prog 8 #[.pointer (some ⟨b, 0, none⟩), actV what lvl0 tx0 key0, .int .i64 lv0] w fun r w' => r = .returned (.tuple #[]) ∧ S w0 w' (tale2 b be (t0.does ⟨what, lvl0, tx0, key0⟩ lv0) :: L) := by
 have HWX := hid hwx
 clear hwx
 obtain ⟨bs, k, h⟩ := hs.t2_open
 obtain ⟨⟨c7, f7⟩, h1⟩ := does_pre (what := what) (level := lvl0) (tx := tx0) (key := key0) h
 have hst := hok0.steps
 have hok := hok0.step hst0
 obtain ⟨t, ht⟩ : ∃ t, t = t0.step := ⟨_, rfl⟩
 obtain ⟨n, hn⟩ : ∃ n, n = t.recs.length := ⟨_, rfl⟩
 obtain ⟨p, hp⟩ : ∃ p, p = pickN tx0 (min 6 n) := ⟨_, rfl⟩
 obtain ⟨ky, hK⟩ : ∃ ky, ky = pickN key0 4 := ⟨_, rfl⟩
 obtain ⟨x, hx⟩ : ∃ x, x = n - p - 1 := ⟨_, rfl⟩
 have hdo : t0.does ⟨what, lvl0, tx0, key0⟩ lv0 = (t.act what x ky).overs := by
  rw [hK]
  unfold Tale.does
  simp only [if_neg hw0, if_neg hw5, if_neg hrn]
  rw [hx, hp, hn, ht]
  rfl
 have hre : t0.recs = t.recs := by rw [ht]; rfl
 have hee : t0.e = t.e := by rw [ht]; rfl
 rw [← ht, hre, hee] at h1
 rw [← ht] at hok
 rw [hre] at hrn
 have hnpos : 0 < n := by rw [hn]; exact List.length_pos_iff.2 hrn
 have hpl : p < min 6 n := by rw [hp]; exact pickN_lt tx0 (by omega)
 have hnx : (n : Int) - (p : Int) = (x : Int) + 1 := by omega
 have hxn : x < n := by omega
 have hn200 : n ≤ 200 := by rw [hn, hok.len]; exact hok.ok.few
 obtain ⟨a0, a1, a2, a3⟩ := act_see h1
 have c1 := h1.tale_see.1.level
 obtain ⟨al, cl, hlv, _, _, _⟩ := h1.tale_see.2.1
 rw [hlv, ← hn] at c1
 have hb0 : (what == 0) = false := by simpa using hw0
 have hb5 : (what == 5) = false := by simpa using hw5
 have hbn : ((n : Int) == 0) = false := by simpa using (by omega : n ≠ 0)
 have hpk4 : ∀ W, Calls Tryz.prog 16 #[.int .i64 key0, .int .i64 4] W fun e w' => e = .returned (.int .i64 ky) ∧ W = w' := fun W => by rw [hK]; exact pick_any key0 4 W (by omega) (by omega)
 have hK4 : ky < 4 := by rw [hK]; exact pickN_lt key0 (by omega)
 have HPK4 := hid hpk4
 have hpk : ∀ W, Calls Tryz.prog 16 #[.int .i64 tx0, .int .i64 (min 6 (n : Int))] W fun e w' => e = .returned (.int .i64 p) ∧ W = w' := fun W => by
  have h3 := pick_any tx0 (min 6 (n : Int)) W (by omega) (by omega)
  have e3 : (min 6 (n : Int)).toNat = min 6 n := by omega
  rw [e3, ← hp] at h3
  exact h3
 have hnw : IntKind.i64.wrap ((x : Int) + 1) = (x : Int) + 1 := IntWalk.i64_in _ (by omega)
 have hx1 : (x : Int) + 1 - 1 = (x : Int) := by omega
 have hq : ∀ W, S w0 W (taleB b be k t :: all (recPs k.vs t.recs) :: engP be bs t.e :: blk w.heap.size 28 [.int .i64 what, .int .i64 lvl0, .int .i64 tx0, .int .i64 key0] :: L) → W.cell? ⟨b, 1, none⟩ = some (.slice al n cl) ∧ W.cell? ⟨w.heap.size, 2, none⟩ = some (.int .i64 tx0) := fun W h => by
  refine ⟨?_, (act_see h).2.2.1⟩
  have := h.tale_see.1.level
  rw [hlv, ← hn] at this
  exact this
 have HPK := hid hpk; have HQ := hid hq
 have H1 := hid h1; have HDO := hid hdo; have HOK := hid hok; have HN := hid hn; have HP := hid hp; have HLV := hid hlv
 clear hs h h1 hdo hok0 hw0 hw5 hrn hlv hok hst0 ht hre hee hn hp hx hpk hq hpk4 hK
 unfold actV
 go_enter Tryz.func8, Tryz.ntmps8
 go_upto_if 139 with (go_at_call 16; with_reducible refine (HPK4.out _).mono ?_; rintro r w' ⟨rfl, rfl⟩)
 clear HPK4
 go_upto_region 16 with fail
 clear a0 a1 a2 a3 c1 c7 f7
 have H2 := H1
 refine wp_region_held_drew (S := fun w' => w'.cell? ⟨b, 1, none⟩ = some (.slice al n cl) ∧ w'.cell? ⟨w.heap.size, 2, none⟩ = some (.int .i64 tx0)) (by kernel_rfl) (HQ.out _ H2.out.drew) (fun hHeld => ?_)
 refine wpAnyH_take (i := 0) (v := ?_) rfl (by kernel_rfl) (by kernel_rfl) (by kernel_rfl) (fun _ _ _ h => h) (Or.inl ⟨by rfl, ?_⟩) hHeld ?_
 rotate_left
 ·(intro w hSw; (try dsimp only at hSw); go_simp) <;> with_reducible rfl
 try simp only [putU]
 refine wpAnyH_take (i := 1) (v := ?_) rfl (by kernel_rfl) (by kernel_rfl) (by kernel_rfl) (fun _ _ _ h => h) (Or.inl ⟨by rfl, ?_⟩) hHeld ?_
 rotate_left
 ·(intro w hSw; (try dsimp only at hSw); go_simp) <;> with_reducible rfl
 try simp only [putU]
 refine wpAnyH_take (i := 2) (v := ?_) rfl (by kernel_rfl) (by kernel_rfl) (by kernel_rfl) (fun _ _ _ h => h) (Or.inl ⟨by rfl, ?_⟩) hHeld ?_
 rotate_left
 ·(intro w hSw; (try dsimp only at hSw); go_simp) <;> with_reducible rfl
 try simp only [putU]
 refine wpAnyH_take (i := 3) (v := ?_) rfl (by kernel_rfl) (by kernel_rfl) (by kernel_rfl) (fun _ _ _ h => h) (Or.inl ⟨by rfl, ?_⟩) hHeld ?_
 rotate_left
 ·(intro w hSw; (try dsimp only at hSw); go_simp) <;> with_reducible rfl
 try simp only [putU]
 refine wpAnyH_take (i := 4) (v := ?_) rfl (by kernel_rfl) (by kernel_rfl) (by kernel_rfl) (fun _ _ _ h => h) (Or.inl ⟨by rfl, ?_⟩) hHeld ?_
 rotate_left
 ·(intro w hSw; (try dsimp only at hSw); go_simp) <;> with_reducible rfl
 try simp only [putU]
 refine wpAnyH_take (i := 5) (v := ?_) rfl (by kernel_rfl) (by kernel_rfl) (by kernel_rfl) (fun _ _ _ h => h) (Or.inl ⟨by rfl, ?_⟩) hHeld ?_
 rotate_left
 ·(intro w hSw; (try dsimp only at hSw); go_simp) <;> with_reducible rfl
 try simp only [putU]
 refine wpAnyH_take (i := 6) (v := ?_) rfl (by kernel_rfl) (by kernel_rfl) (by kernel_rfl) (fun _ _ _ h => h) (Or.inl ⟨by rfl, ?_⟩) hHeld ?_
 rotate_left
 ·(intro w hSw; (try dsimp only at hSw); go_simp) <;> with_reducible rfl
 try simp only [putU]
 refine wpAnyH_take (i := 7) (v := ?_) rfl (by kernel_rfl) (by kernel_rfl) (by kernel_rfl) (fun _ _ _ h => h) (Or.inl ⟨by rfl, ?_⟩) hHeld ?_
 rotate_left
 ·(intro w hSw; (try dsimp only at hSw); go_simp) <;> with_reducible rfl
 try simp only [putU]
 refine wpAnyH_take (i := 8) (v := ?_) rfl (by kernel_rfl) (by kernel_rfl) (by kernel_rfl) (fun _ _ _ h => h) (Or.inl ⟨by rfl, ?_⟩) hHeld ?_
 rotate_left
 ·(intro w hSw; (try dsimp only at hSw); go_simp) <;> with_reducible rfl
 try simp only [putU]
 refine wpAnyH_take (i := 9) (v := ?_) rfl (by kernel_rfl) (by kernel_rfl) (by kernel_rfl) (fun _ _ _ h => h) (Or.inl ⟨by rfl, ?_⟩) hHeld ?_
 rotate_left
 ·(intro w hSw; (try dsimp only at hSw); go_simp) <;> with_reducible rfl
 try simp only [putU]
 refine wpAnyH_take (i := 10) (v := ?_) rfl (by kernel_rfl) (by kernel_rfl) (by kernel_rfl) (fun _ _ _ h => h) (Or.inl ⟨by rfl, ?_⟩) hHeld ?_
 rotate_left
 ·(intro w hSw; (try dsimp only at hSw); go_simp) <;> with_reducible rfl
 try simp only [putU]
 refine wpAnyH_take (i := 11) (v := ?_) rfl (by kernel_rfl) (by kernel_rfl) (by kernel_rfl) (fun _ _ _ h => h) (Or.inl ⟨by rfl, ?_⟩) hHeld ?_
 rotate_left
 ·(intro w hSw; (try dsimp only at hSw); go_simp) <;> with_reducible rfl
 try simp only [putU]
 have HS := hid H2.out.drew
 clear hHeld
 refine anyH_world (fun w => Hid (S w0 w _)) HS (fun w1 HS => ?_)
 refine wpAnyH_ready (rs := [12]) (by kernel_rfl) (by simp) ?_
 refine AllReadyH.cons rfl (fun K hK => ?_) AllReadyH.nil
 go_simp
 refine hK.out _ _ (HQ.out _ HS.out) (fun _ => ?_)
 clear hK K
 refine wpAnyH_ready (rs := [13]) (by kernel_rfl) (by simp) ?_
 refine AllReadyH.cons rfl (fun K hK => ?_) AllReadyH.nil
 go_simp
 go_at_call 16
 with_reducible refine (HPK.out _).mono ?_
 rintro r w' ⟨rfl, rfl⟩
 refine hK.out _ _ (HQ.out _ HS.out) (fun _ => ?_)
 clear hK K
 refine wpAnyH_take (i := 14) (v := ?_) rfl (by kernel_rfl) (by kernel_rfl) (by kernel_rfl) (fun _ _ _ h => h) (Or.inl ⟨by rfl, ?_⟩) (HQ.out _ HS.out) ?_
 rotate_left
 ·(intro w hSw; (try dsimp only at hSw); go_simp) <;> with_reducible rfl
 try simp only [putU]
 refine wpAnyH_take (i := 15) (v := ?_) rfl (by kernel_rfl) (by kernel_rfl) (by kernel_rfl) (fun _ _ _ h => h) (Or.inl ⟨by rfl, ?_⟩) (HQ.out _ HS.out) ?_
 rotate_left
 ·(intro w hSw; (try dsimp only at hSw); go_simp) <;> with_reducible rfl
 try simp only [putU]
 refine wpAnyH_done (by kernel_rfl) ?_ _
 obtain ⟨a0, a1, a2, a3⟩ := act_see HS.out
 go_upto_block 0 with fail
 go_cut [] from 168 to 347 (fun wx => ∃ t' bs' k', t' = t.act what x ky ∧ t'.recs.length = n ∧ S w0 wx (taleB b be k' t' :: all (recPs k'.vs t'.recs) :: engP be bs' t'.e :: blk w.heap.size 28 [.int .i64 what, .int .i64 lvl0, .int .i64 tx0, .int .i64 key0] :: L))
 case first =>
  clear HDO HPK HQ HP hbn hnw hnx hpl H1 H2 hst
  have c0 := HS.out.tale_see.1.e
  have hfew : N ≤ 90000000 := Nat.le_trans HOK.out.few (by omega)
  have hx2 : x < t.recs.length := by rw [← HN.out]; exact hxn
  ·skip
   ·skip
    ·have h1 := HWX.out
     subst h1
     obtain ⟨E1, hE1⟩ : ∃ y, y = (t.e.read ((x : Int) + 1) ky).1 := ⟨_, rfl⟩
     obtain ⟨rv, hrv⟩ : ∃ y, y = (t.e.read ((x : Int) + 1) ky).2.1 := ⟨_, rfl⟩
     obtain ⟨er, her⟩ : ∃ y, y = (t.e.read ((x : Int) + 1) ky).2.2 := ⟨_, rfl⟩
     obtain ⟨vv, hvv⟩ : ∃ y, y = if er = 8 then -1 else rv := ⟨_, rfl⟩
     obtain ⟨wa, hwa⟩ : ∃ y, y = if (t.one x).level = 0 then ofL t.e.allV ky else ofL (t.one x).snap ky := ⟨_, rfl⟩
     obtain ⟨t1, ht1⟩ : ∃ y : Tale, y = { t with e := E1 } := ⟨_, rfl⟩
     have hact : t.act 1 x ky = if er ≠ 0 ∧ er ≠ 8 then t1 else match mget (t.one x).own (ky : Int) with
       | some u => t1.marked (decide (vv ≠ u))
       | none => (t1.marked (decide (vv ≠ wa))).updR x fun r => { r with reads := r.reads ++ [((ky : Int), vv)] } := by
      rw [ht1, hwa, hvv, hE1, her, hrv]
      rfl
     have hre : t1.recs = t.recs := by rw [ht1]
     have he1 : t1.e = E1 := by rw [ht1]
     have hone : t1.one x = t.one x := by unfold Tale.one; rw [hre]
     have hB1 : ∀ k, taleB b be k t1 = taleB b be k t := fun k => by rw [ht1]; rfl
     have hl1 : t1.recs.length = n := by rw [hre]; exact HN.out.symm
     obtain ⟨gl, ol, cl', gs, os, cs, go, oo, co, gr, or_, cr, b1, b2, b3, b4, b5, b6, b7, b8, hkr, hsee⟩ := read_see HN.out.symm hxn HS.out
     unfold maxLen at b2 b4 b6 b8
     have hal := eall_any w0 w1 be bs t.e _ N [] HOK.out.ok HS.out.rot3
     have hrd := fun W M h => eread_any w0 W be bs t.e ((x : Int) + 1) ky M N hE HOK.out.ok hfew h
     rw [← hE1, ← hrv, ← her] at hrd
     have HA := hid hal; have HRD := hid hrd; have HACT := hid hact; have HSEE := hid hsee; have HRE := hid hre; have HB1 := hid hB1; have HKR := hid hkr; have HE1 := hid he1
     have hrdl : (t.one x).reads.length ≤ 1000000 := by
      have hm : t.one x ∈ t.recs := by unfold Tale.one; simp [hx2]
      exact (HOK.out.reads _ hm).1
     have HRDL := hid hrdl
     clear hrdl
     have HL1 := hid hl1; have HVV := hid hvv; have HWA := hid hwa; have HONE := hid hone; have HX2 := hid hx2
     clear hal hrd hact hsee hre hB1 hkr he1 hl1 hvv hwa hone hx2 hE1 hrv her ht1 HOK hfew a1 a2 a3 hb0 hb5
     go_wp2_with fail
     with_reducible refine HA.out.mono ?_
     rintro r w2 ⟨v5, rfl, hs2⟩
     have hs2' := hs2.conv (M := engP be bs t.e :: sl 44 2 v5 t.e.allV.length (pcells t.e.allV) :: taleB b be k t :: all (recPs k.vs t.recs) :: blk w.heap.size 28 [.int .i64 1, .int .i64 lvl0, .int .i64 tx0, .int .i64 key0] :: L) (by simp only [all]; ac_rfl)
     obtain ⟨av, cv, rfl, cv1, cv2, _⟩ := hs2.sl_val
     unfold maxLen at cv2
     have hcc := (HSEE.out _ _ _ HN.out.symm (hs2'.conv (M := taleB b be k t :: engP be bs t.e :: sl 44 2 (.slice av t.e.allV.length cv) t.e.allV.length (pcells t.e.allV) :: all (recPs k.vs t.recs) :: blk w.heap.size 28 [.int .i64 1, .int .i64 lvl0, .int .i64 tx0, .int .i64 key0] :: L) (by simp only [all]; ac_rfl))).e
     have HB := hid (HRD.out _ _ hs2')
     clear hs2 hs2' HA HRD c0 a0 HS
     go_wp2_with fail
     with_reducible refine HB.out.mono ?_
     rintro r w3 ⟨rfl, hs3⟩
     obtain ⟨R3, hR3⟩ : ∃ R, R = all (engP be bs E1 :: blk w.heap.size 28 [.int .i64 1, .int .i64 lvl0, .int .i64 tx0, .int .i64 key0] :: L) := ⟨_, rfl⟩
     have hs4 : S w0 w3 (taleB b be k t1 :: all (recPs k.vs t1.recs) :: sl 44 2 (.slice av t.e.allV.length cv) t.e.allV.length (pcells t.e.allV) :: R3 :: []) := hs3.conv (by rw [HB1.out, HRE.out, hR3]; simp only [all, sep_emp]; ac_rfl)
     have htl := tellV_any w0 w3 er _ hE hs4
     have HT := hid htl; have HR3 := hid hR3
     clear hs3 hs4 HB htl hcc hR3
     go_wp2_with fail
     with_reducible refine HT.out.mono ?_
     rintro r w4 ⟨rfl, hs4⟩
     have HS := hid hs4
     clear hs4 HT
     have hfin : ∀ W (t' : Tale) (k' : TaleV), S w0 W (taleB b be k' t' :: all (recPs k'.vs t'.recs) :: sl 44 2 (.slice av t.e.allV.length cv) t.e.allV.length (pcells t.e.allV) :: R3 :: []) → t'.e = E1 → S w0 W (taleB b be k' t' :: all (recPs k'.vs t'.recs) :: engP be bs t'.e :: blk w.heap.size 28 [.int .i64 1, .int .i64 lvl0, .int .i64 tx0, .int .i64 key0] :: L) := fun W t' k' h he => by
      have h2 := h.conv (M := sl 44 2 (.slice av t.e.allV.length cv) t.e.allV.length (pcells t.e.allV) :: taleB b be k' t' :: all (recPs k'.vs t'.recs) :: R3 :: []) (by simp only [all]; ac_rfl)
      rw [he]
      exact h2.tail.conv (by rw [HR3.out]; simp only [all, sep_emp])
     have HFIN := hid hfin
     clear hfin HR3
     by_cases hne : er ≠ 0 ∧ er ≠ 8
     ·have n0 : (er != 0) = true := by simpa using hne.1
      have n8 : (er != 8) = true := by simpa using hne.2
      have ha := HACT.out
      rw [if_pos hne] at ha
      have HAC := hid ha
      clear ha hne HACT HSEE HKR
      go_wp2_with fail
      go_meet
      exact ⟨t1, bs, k, HAC.out.symm, HL1.out, HFIN.out _ _ _ HS.out HE1.out⟩
     ·have ha := HACT.out
      rw [if_neg hne] at ha
      have HAC := hid ha
      clear ha HACT
      have hnn : ((er != 0) = true ∧ (er != 8) = false ∧ (er == 8) = true ∧ er = 8) ∨ ((er != 0) = false ∧ (er == 8) = false ∧ er = 0) := by
       by_cases h8 : er = 8
       ·left; subst h8; exact ⟨rfl, rfl, rfl, rfl⟩
       ·right
        have h0 : er = 0 := by
         by_cases h0 : er = 0
         ·exact h0
         ·exact absurd ⟨h0, h8⟩ hne
        subst h0; exact ⟨rfl, rfl, rfl⟩
      clear hne
      go_upto_region 23 with fail
      go_cut [194] from 189 to 193 (fun s wx => s = .bool false ∧ wx = w4)
      case first =>
       rcases hnn with ⟨n0, n8, _, _⟩ | ⟨n0, _, _⟩
       ·go_wp2_with fail
        go_meet
        exact ⟨rfl, rfl⟩
       ·go_wp2_with fail
        go_meet
        exact ⟨rfl, rfl⟩
      ·rename World => w5
       obtain ⟨rfl, rfl⟩ := hcut
       go_upto_if 196 with fail
       go_cut [13] from 195 to 196 (fun s wx => s = .int .i64 vv ∧ wx = w5)
       case first =>
        have hv := HVV.out
        rcases hnn with ⟨_, _, n8, e8⟩ | ⟨_, n8, e0⟩
        ·rw [if_pos e8] at hv
         have HV := hid hv
         clear hv e8
         go_wp2_with fail
         go_meet
         exact ⟨by rw [HV.out], rfl⟩
        ·rw [if_neg (by rw [e0]; decide)] at hv
         have HV := hid hv
         clear hv e0
         go_wp2_with fail
         go_meet
         exact ⟨by rw [HV.out], rfl⟩
       ·rename World => w6
        obtain ⟨rfl, rfl⟩ := hcut
        clear hnn HVV
        obtain ⟨mb, hmb⟩ : ∃ m, m = (k.v x).mb := ⟨_, rfl⟩
        have hC := HSEE.out _ _ _ HL1.out HS.out
        have hm := HS.out.swap.rec_see (i := x) (by rw [HRE.out]; exact HX2.out)
        rw [HONE.out, ← hmb] at hm
        have lk := Tryz.look2 hm (ky : Int)
        have c3 := hC.own
        have q3 := hC.xown
        rw [← hmb] at q3
        have HC := hid hC; have HMB := hid hmb
        clear hC hm hmb
        cases hmg : mget (t.one x).own (ky : Int) with
        | some u =>
         rw [hmg] at lk
         simp only [Option.getD_some, Option.isSome_some] at lk
         have ha := HAC.out
         rw [hmg] at ha
         have HA2 := hid ha
         clear hmg ha HAC
         go_upto_if 212 with fail
         go_cut [] from 210 to 215 (fun wx => S w0 wx (taleB b be k (t1.marked (decide (vv ≠ u))) :: all (recPs k.vs t1.recs) :: sl 44 2 (.slice av t.e.allV.length cv) t.e.allV.length (pcells t.e.allV) :: R3 :: []))
         case first =>
          by_cases hvu : vv = u
          ·have n1 : (vv != u) = false := by simpa using hvu
           have hd : decide (vv ≠ u) = false := by simpa using hvu
           have HD := hid hd
           clear hvu hd
           go_wp2_with fail
           go_meet
           rw [HD.out, marked_false]
           exact HS.out
          ·have n1 : (vv != u) = true := by simpa using hvu
           have hd : decide (vv ≠ u) = true := by simpa using hvu
           have HD := hid hd
           have c9 := HC.out.broken
           have f9 := HC.out.free 9
           clear hvu hd
           go_wp2_with fail
           go_meet
           rw [HD.out]
           exact HS.out.tale_mark
         ·rename World => w7
          have HS7 := hid hcut
          clear c3 q3 lk HS HC
          go_wp2_with fail
          go_meet
          exact ⟨t1.marked (decide (vv ≠ u)), bs, k, HA2.out.symm, HL1.out, HFIN.out _ (t1.marked (decide (vv ≠ u))) k HS7.out HE1.out⟩
        | none =>
         rw [hmg] at lk
         simp only [Option.getD_none, Option.isSome_none] at lk
         have ha := HAC.out
         rw [hmg] at ha
         have HA2 := hid ha
         have c2 := HC.out.snap
         have q2 := HC.out.xsnap
         have c1 := HC.out.level
         have q1 := HC.out.xlevel
         rw [HONE.out] at q1
         have hx1 : x < t1.recs.length := by rw [HL1.out]; exact hxn
         have hsnap := of_any w0 w6 (k.v x).sv (t1.one x).snap (ky : Int) _ HS.out.swap (rec_snap hx1)
         rw [HONE.out] at hsnap
         have hall := of_any w0 w6 (.slice av t.e.allV.length cv) t.e.allV (ky : Int) _ (HS.out.conv (M := sl 44 2 (.slice av t.e.allV.length cv) t.e.allV.length (pcells t.e.allV) :: taleB b be k t1 :: all (recPs k.vs t1.recs) :: R3 :: []) (by simp only [all]; ac_rfl)) RdK.own
         have HSN := hid hsnap; have HAL := hid hall; have HX1 := hid hx1
         clear hmg ha HAC hsnap hall hx1
         go_upto_if 232 with (go_at_call 11; with_reducible refine HSN.out.mono ?_; rintro r w' ⟨rfl, rfl⟩)
         go_cut [18] from 225 to 235 (fun s wx => s = .int .i64 wa ∧ wx = w6)
         case first =>
          by_cases hl0 : (t.one x).level = 0
          ·have hv := HWA.out
           rw [if_pos hl0] at hv
           have HV := hid hv
           have hb1 : ((t.one x).level == 0) = true := by simpa using hl0
           clear hv hl0
           go_wp2_with (go_at_call 11; with_reducible refine HAL.out.mono ?_; rintro r w' ⟨rfl, rfl⟩)
           go_meet
           exact ⟨by rw [HV.out], rfl⟩
          ·have hv := HWA.out
           rw [if_neg hl0] at hv
           have HV := hid hv
           have hb1 : ((t.one x).level == 0) = false := by simpa using hl0
           clear hv hl0
           go_wp2_with fail
           go_meet
           exact ⟨by rw [HV.out], rfl⟩
         ·rename World => w7
          obtain ⟨rfl, rfl⟩ := hcut
          clear HSN HAL HWA c2 q2 c1 q1 c3 q3 lk HMB
          go_upto_if 238 with fail
          go_cut [] from 236 to 241 (fun wx => S w0 wx (taleB b be k (t1.marked (decide (vv ≠ wa))) :: all (recPs k.vs t1.recs) :: sl 44 2 (.slice av t.e.allV.length cv) t.e.allV.length (pcells t.e.allV) :: R3 :: []))
          case first =>
           by_cases hvu : vv = wa
           ·have n1 : (vv != wa) = false := by simpa using hvu
            have hd : decide (vv ≠ wa) = false := by simpa using hvu
            have HD := hid hd
            clear hvu hd
            go_wp2_with fail
            go_meet
            rw [HD.out, marked_false]
            exact HS.out
           ·have n1 : (vv != wa) = true := by simpa using hvu
            have hd : decide (vv ≠ wa) = true := by simpa using hvu
            have HD := hid hd
            have c9 := HC.out.broken
            have f9 := HC.out.free 9
            clear hvu hd
            go_wp2_with fail
            go_meet
            rw [HD.out]
            exact HS.out.tale_mark
          ·rename World => w8
           obtain ⟨t2, ht2⟩ : ∃ y, y = t1.marked (decide (vv ≠ wa)) := ⟨_, rfl⟩
           have ha2 := HA2.out
           rw [← ht2] at hcut ha2
           have hr2 : t2.recs = t1.recs := by rw [ht2]; rfl
           have he2 : t2.e = E1 := by rw [ht2]; exact HE1.out
           have hl2 : t2.recs.length = n := by rw [hr2]; exact HL1.out
           have ho2 : t2.one x = t.one x := by rw [← HONE.out]; unfold Tale.one; rw [hr2]
           have hx2 : x < t2.recs.length := by rw [hl2]; exact hxn
           have hk2 : k.rv = .slice (some ⟨gr, or_, none⟩) t2.recs.length cr := by rw [hl2]; exact HKR.out
           rw [← hr2] at hcut
           have h5 := (hcut.swap.rec_out hx2).sep_elim
           rw [ho2] at h5
           have hrdl : (t.one x).reads.length + 1 ≤ 1000000000000 := by
            have := HRDL.out
            omega
           obtain ⟨Y, hY⟩ : ∃ Y, Y = all (sl 44 2 (k.v x).sv (t.one x).snap.length (pcells (t.one x).snap) :: mp encI (fun _ => True) (k.v x).mb (ienc (t.one x).own) :: all ((recPs k.vs t2.recs).set x emp) :: sl 44 2 (.slice av t.e.allV.length cv) t.e.allV.length (pcells t.e.allV) :: R3 :: []) := ⟨_, rfl⟩
           have h6 : S w0 w8 (sl 67 2 (k.v x).rv (t.one x).reads.length (pcells (t.one x).reads) :: sep (taleB b be k t2) Y :: []) := h5.conv (by rw [hY]; simp only [all, sep_emp]; ac_rfl)
           obtain ⟨ax, cx, hrv, hcx, hcx2, _⟩ := h6.sl_val
           have hq : ∀ W (M : List HProp), S w0 W (sep (taleB b be k t2) Y :: M) → W.cell? ⟨b, 4, none⟩ = some (.slice (some ⟨gr, or_, none⟩) n cr) ∧ W.cell? ⟨gr, or_ + x, none⟩ = some (.slice ax (t.one x).reads.length cx) := fun W M h => by
            have := HSEE.out W _ t2 hl2 h.sep_elim
            exact ⟨this.reads, by rw [← hrv]; exact this.xreads⟩
           have hf : ∀ W (M : List HProp), S w0 W (sep (taleB b be k t2) Y :: M) → W.cell? ⟨gr, or_ + x, none⟩ = some (.slice ax (t.one x).reads.length cx) ∧ W.frozen? ⟨gr, or_ + x, none⟩ = false := fun W M h => by
            have := HSEE.out W _ t2 hl2 h.sep_elim
            exact ⟨by rw [← hrv]; exact this.xreads, this.xfree⟩
           have hcl : ∀ W u (M : HProp), S w0 W (sl 67 2 u ((t.one x).reads.length + 1) (pcells (t.one x).reads ++ pcells [((ky : Int), vv)]) :: sep (taleB b be k t2) Y :: M :: []) →
             ∃ k', S w0 (W.setCell ⟨gr, or_ + x, none⟩ u) (taleB b be k' (t2.updR x fun r => { r with reads := r.reads ++ [((ky : Int), vv)] }) :: all (recPs k'.vs (t2.updR x fun r => { r with reads := r.reads ++ [((ky : Int), vv)] }).recs) :: engP be bs (t2.updR x fun r => { r with reads := r.reads ++ [((ky : Int), vv)] }).e :: blk w.heap.size 28 [.int .i64 1, .int .i64 lvl0, .int .i64 tx0, .int .i64 key0] :: L) := fun W u M h => by
            have g1 : S w0 W (sl 67 2 u ((t2.one x).reads.length + 1) (pcells (t2.one x).reads ++ [.int .i64 ky, .int .i64 vv]) :: sl 44 2 (k.v x).sv (t2.one x).snap.length (pcells (t2.one x).snap) :: mp encI (fun _ => True) (k.v x).mb (ienc (t2.one x).own) :: all ((recPs k.vs t2.recs).set x emp) :: taleB b be k t2 :: sl 44 2 (.slice av t.e.allV.length cv) t.e.allV.length (pcells t.e.allV) :: R3 :: M :: []) := by
             rw [ho2]
             have h' : S w0 W (sl 67 2 u ((t.one x).reads.length + 1) (pcells (t.one x).reads ++ [.int .i64 ky, .int .i64 vv]) :: sep (taleB b be k t2) Y :: M :: []) := h
             exact h'.conv (by rw [hY]; simp only [all, sep_emp]; ac_rfl)
            obtain ⟨k', g2⟩ := g1.tale_reads hx2 hk2
            refine ⟨k', ?_⟩
            have g3 : S w0 _ (taleB b be k' (t2.updR x fun r => { r with reads := r.reads ++ [((ky : Int), vv)] }) :: all (recPs k'.vs (t2.updR x fun r => { r with reads := r.reads ++ [((ky : Int), vv)] }).recs) :: sl 44 2 (.slice av t.e.allV.length cv) t.e.allV.length (pcells t.e.allV) :: R3 :: []) :=
             (g2.conv (M := M :: taleB b be k' (t2.updR x fun r => { r with reads := r.reads ++ [((ky : Int), vv)] }) :: all (recPs k'.vs (t2.updR x fun r => { r with reads := r.reads ++ [((ky : Int), vv)] }).recs) :: sl 44 2 (.slice av t.e.allV.length cv) t.e.allV.length (pcells t.e.allV) :: R3 :: []) (by simp only [all]; ac_rfl)).tail
            exact HFIN.out _ _ k' g3 he2
           have hlu : (t2.updR x fun r => { r with reads := r.reads ++ [((ky : Int), vv)] }).recs.length = n := by rw [updR_len, hl2]
           rw [hrv] at h6
           have HS0 := hid h6; have HQ := hid hq; have HF := hid hf; have HCL := hid hcl; have HLU := hid hlu; have HA3 := hid ha2; have HA := hid hrdl
           obtain ⟨i0, hi0, hz0, hz1, hz2⟩ := info_parts Tryz.info67
           clear hcut ht2 hr2 he2 hl2 ho2 hx2 hk2 h5 h6 hrdl hY hrv hq hf hcl hlu ha2 HA2 HS HC HONE HL1 HX1 HX2 HSEE HRE HB1 HKR HE1 HFIN HRDL
           go_upto_region 35 with fail
           refine region_U (S := fun w' => w'.cell? ⟨b, 4, none⟩ = some (.slice (some ⟨gr, or_, none⟩) n cr) ∧ w'.cell? ⟨gr, or_ + x, none⟩ = some (.slice ax (t.one x).reads.length cx)) (u := 18) (by kernel_rfl) (HQ.out _ _ (HS0.out.drew.nth 1 rfl)) (fun hHeld => ?_)
           refine anyU_take (i := 0) (v := ?_) rfl (by kernel_rfl) (fun _ _ _ h => h) (Or.inl ⟨by rfl, ?_⟩) hHeld ?_
           rotate_left
           ·(intro w hSw; (try dsimp only at hSw); go_simp) <;> with_reducible rfl
           try simp only [putU]
           refine anyU_take (i := 1) (v := ?_) rfl (by kernel_rfl) (fun _ _ _ h => h) (Or.inl ⟨by rfl, ?_⟩) hHeld ?_
           rotate_left
           ·(intro w hSw; (try dsimp only at hSw); go_simp) <;> with_reducible rfl
           try simp only [putU]
           refine anyU_take (i := 2) (v := ?_) rfl (by kernel_rfl) (fun _ _ _ h => h) (Or.inl ⟨by rfl, ?_⟩) hHeld ?_
           rotate_left
           ·(intro w hSw; (try dsimp only at hSw); go_simp) <;> with_reducible rfl
           try simp only [putU]
           refine anyU_take (i := 3) (v := ?_) rfl (by kernel_rfl) (fun _ _ _ h => h) (Or.inl ⟨by rfl, ?_⟩) hHeld ?_
           rotate_left
           ·(intro w hSw; (try dsimp only at hSw); go_simp) <;> with_reducible rfl
           try simp only [putU]
           refine anyU_take (i := 4) (v := ?_) rfl (by kernel_rfl) (fun _ _ _ h => h) (Or.inl ⟨by rfl, ?_⟩) hHeld ?_
           rotate_left
           ·(intro w hSw; (try dsimp only at hSw); go_simp) <;> with_reducible rfl
           try simp only [putU]
           refine anyU_take (i := 5) (v := ?_) rfl (by kernel_rfl) (fun _ _ _ h => h) (Or.inl ⟨by rfl, ?_⟩) hHeld ?_
           rotate_left
           ·(intro w hSw; (try dsimp only at hSw); go_simp) <;> with_reducible rfl
           try simp only [putU]
           refine anyU_take (i := 6) (v := ?_) rfl (by kernel_rfl) (fun _ _ _ h => h) (Or.inl ⟨by rfl, ?_⟩) hHeld ?_
           rotate_left
           ·(intro w hSw; (try dsimp only at hSw); go_simp) <;> with_reducible rfl
           try simp only [putU]
           refine anyU_take (i := 7) (v := ?_) rfl (by kernel_rfl) (fun _ _ _ h => h) (Or.inl ⟨by rfl, ?_⟩) hHeld ?_
           rotate_left
           ·(intro w hSw; (try dsimp only at hSw); go_simp) <;> with_reducible rfl
           try simp only [putU]
           refine anyU_take (i := 8) (v := ?_) rfl (by kernel_rfl) (fun _ _ _ h => h) (Or.inl ⟨by rfl, ?_⟩) hHeld ?_
           rotate_left
           ·(intro w hSw; (try dsimp only at hSw); go_simp) <;> with_reducible rfl
           try simp only [putU]
           refine anyU_take (i := 9) (v := ?_) rfl (by kernel_rfl) (fun _ _ _ h => h) (Or.inl ⟨by rfl, ?_⟩) hHeld ?_
           rotate_left
           ·(intro w hSw; (try dsimp only at hSw); go_simp) <;> with_reducible rfl
           try simp only [putU]
           refine anyU_take (i := 10) (v := ?_) rfl (by kernel_rfl) (fun _ _ _ h => h) (Or.inl ⟨by rfl, ?_⟩) hHeld ?_
           rotate_left
           ·(intro w hSw; (try dsimp only at hSw); go_simp) <;> with_reducible rfl
           try simp only [putU]
           refine anyU_take (i := 11) (v := ?_) rfl (by kernel_rfl) (fun _ _ _ h => h) (Or.inl ⟨by rfl, ?_⟩) hHeld ?_
           rotate_left
           ·(intro w hSw; (try dsimp only at hSw); go_simp) <;> with_reducible rfl
           try simp only [putU]
           refine anyU_take (i := 12) (v := ?_) rfl (by kernel_rfl) (fun _ _ _ h => h) (Or.inl ⟨by rfl, ?_⟩) hHeld ?_
           rotate_left
           ·(intro w hSw; (try dsimp only at hSw); go_simp) <;> with_reducible rfl
           try simp only [putU]
           refine anyU_take (i := 13) (v := ?_) rfl (by kernel_rfl) (fun _ _ _ h => h) (Or.inl ⟨by rfl, ?_⟩) hHeld ?_
           rotate_left
           ·(intro w hSw; (try dsimp only at hSw); go_simp) <;> with_reducible rfl
           try simp only [putU]
           refine anyU_take (i := 14) (v := ?_) rfl (by kernel_rfl) (fun _ _ _ h => h) (Or.inl ⟨by rfl, ?_⟩) hHeld ?_
           rotate_left
           ·(intro w hSw; (try dsimp only at hSw); go_simp) <;> with_reducible rfl
           try simp only [putU]
           have HS := hid HS0.out.drew
           clear hHeld
           refine anyU_world (fun w => Hid (S w0 w _)) HS (fun w1 HS => ?_)
           clear HS0
           refine anyU_next (rs := [15]) (by kernel_rfl) (by simp) ?_
           refine NextU.cons rfl (fun K hK => ?_) NextU.nil
           go_simp
           replace HS := hid (HS.out.alloc_slU (e := 67) (size := 2) (pcells [((ky : Int), vv)]) 1 rfl (by unfold maxLen; omega))
           generalize w1.heap.size = b15 at HS ⊢
           refine act_any (fun w => Hid (S w0 w _)) HS (fun w2 HS => ?_)
           refine hK.out _ _ (fun _ => (HQ.out _ _ (HS.out.nth 2 rfl))) ?_
           clear hK K
           refine anyU_next (rs := [16]) (by kernel_rfl) (by simp) ?_
           refine NextU.cons rfl (fun K hK => ?_) NextU.nil
           refine step_appU rfl (.tmp 253) (.tmp 257) 65 rfl 67 i0 _ 2 16 Tryz.underlying65 hi0 hz0 hz1 hz2 rfl (by decide) HS.out 1 (by rfl) (by rfl) _ 1 1 (pcells [((ky : Int), vv)]) (by rfl) rfl (HS.out.news_slK 0 (by rfl)) (one_pair _) HA.out (by decide) ?_
           intro v16 w3 hs
           replace HS := hid hs
           clear hs
           obtain ⟨p16, c16, rfl, _, _, _⟩ := HS.out.sl_val
           refine hK.out _ _ (fun _ => (HQ.out _ _ (HS.out.nth 2 rfl))) ?_
           clear hK K
           try simp only [putU]
           refine anyU_take (i := 17) (v := ?_) rfl (by kernel_rfl) (fun _ _ _ h => h) (Or.inl ⟨by rfl, ?_⟩) (HQ.out _ _ (HS.out.nth 2 rfl)) ?_
           rotate_left
           ·(intro w hSw; (try dsimp only at hSw); go_simp) <;> with_reducible rfl
           try simp only [putU]
           refine anyU_next (rs := [18]) (by kernel_rfl) (by simp) ?_
           refine NextU.cons rfl (fun K hK => ?_) NextU.nil
           obtain ⟨q1, q2⟩ := HF.out _ _ (HS.out.nth 2 rfl)
           go_simp
           refine hK.out _ _ goneU ?_
           clear hK K q1 q2
           refine anyU_done (by kernel_rfl) ?_ _
           have HZ := HS.out
           simp only [List.eraseIdx_cons_succ, List.eraseIdx_cons_zero] at HZ
           have h9 := HCL.out _ _ (sl 67 2 (.slice (some ⟨b15, 0, none⟩) 1 1) 1 (pcells [((ky : Int), vv)])) (HZ.conv (M := sl 67 2 (.slice p16 ((t.one x).reads.length + 1) c16) ((t.one x).reads.length + 1) (pcells (t.one x).reads ++ pcells [((ky : Int), vv)]) :: sep (taleB b be k t2) Y :: sl 67 2 (.slice (some ⟨b15, 0, none⟩) 1 1) 1 (pcells [((ky : Int), vv)]) :: []) (by simp only [all]; ac_rfl))
           have H9 := hid h9
           clear HZ h9 HS HCL HQ HF
           go_wp2_with fail
           go_meet
           obtain ⟨k9, h9⟩ := H9.out
           exact ⟨_, bs, k9, HA3.out.symm, HLU.out, h9⟩
 ·rename World => wX
  obtain ⟨t', bs', k', ht', hl', hs'⟩ := hcut
  have hsT : S w0 wX (taleB b be k' t' :: all (recPs k'.vs t'.recs) :: engP be bs' t'.e :: L) := (hs'.conv (M := blk w.heap.size 28 [.int .i64 what, .int .i64 lvl0, .int .i64 tx0, .int .i64 key0] :: taleB b be k' t' :: all (recPs k'.vs t'.recs) :: engP be bs' t'.e :: L) (by simp only [all]; ac_rfl)).tail
  obtain ⟨al', cl', gw, ow, cw, b1, b2, b3, b4, hlv, hwv, hoc⟩ := over_see hl' hnpos hsT
  have hend : (t'.oversTo n) = t0.does ⟨what, lvl0, tx0, key0⟩ lv0 := by rw [HDO.out, ← ht']; exact t'.oversTo_all hl'.symm
  have hstA := fun W M j (h : S w0 W (engP be bs' t'.e :: M)) => state2_any w0 W be bs' t'.e ((j : Int) + 1) M h
  obtain ⟨stp, hstp⟩ : ∃ s, s = t'.steps := ⟨_, rfl⟩
  have hone := fun j (hj : j < n) => t'.oversTo_one (j := j) (by rw [hl']; exact hj)
  have hstay := fun j (hj : j < n) => t'.oversTo_stay (j := j) (by rw [hl']; exact hj)
  have hturn := fun j (hj : j < n) => t'.oversTo_turn (j := j) (by rw [hl']; exact hj)
  have hl2 : ∀ j, (t'.oversTo j).recs.length = n := fun j => by rw [t'.oversTo_len, hl']
  have hst0' : t'.oversTo 0 = t' := t'.oversTo_zero
  have hsT0 : S w0 wX (taleB b be k' (t'.oversTo 0) :: all (recPs k'.vs (t'.oversTo 0).recs) :: engP be bs' t'.e :: L) := by rw [hst0']; exact hsT
  unfold maxLen at b2 b4
  have HS0 := hid hsT0; have HOC := hid hoc; have HEND := hid hend; have HST := hid hstA; have HONE := hid hone; have HSTAY := hid hstay; have HTURN := hid hturn; have HL2 := hid hl2; have HWV := hid hwv; have HSTP := hid hstp
  clear hs' hsT hsT0 hoc hend hstA hone hstay hturn hl2 hlv hwv hst0' ht' hl' HS H1 H2 HDO HOK HN HP HLV HPK HQ a0 a1 a2 a3 hb0 hb5 hbn hnw hx1 hnx hpl hstp
  have hc1 := (HOC.out _ _ _ (HL2.out 0) HS0.out).level
  go_wp2_with fail
  go_loopw [27] (fun c wr => ∃ j : Nat, j ≤ n ∧ c = .int .i64 j ∧ Hid (S w0 wr (taleB b be k' (t'.oversTo j) :: all (recPs k'.vs (t'.oversTo j).recs) :: engP be bs' t'.e :: L))) (fun c _ => n - (intOf c).toNat)
  case atStart => exact ⟨0, Nat.zero_le _, rfl, HS0⟩
  case round =>
   rename World => wR
   obtain ⟨j, hj, rfl, HR⟩ := hrel
   clear hc1 HS0
   obtain ⟨c0, c1, c6, c7, hrow⟩ := HOC.out _ _ _ (HL2.out j) HR.out
   by_cases hlt : j < n
   ·obtain ⟨c8, f8⟩ := hrow j hlt
    rw [HONE.out j hlt] at c8
    have hst := HST.out wR _ j HR.out.rot3
    have ht := HTURN.out j hlt
    have hy := HSTAY.out j hlt
    generalize t'.e.state ((j : Int) + 1) = s at hst ht hy
    generalize hov : (t'.one j).over = ov at c8 ht hy
    have HOV := hid hov
    have HA := hid hst; have HT := hid ht; have HY := hid hy
    clear hst ht hy hrow hov
    go_wp2_with fail
    with_reducible refine HA.out.mono ?_
    rintro r w2 ⟨rfl, hs2⟩
    have HB := hid (hs2.conv (M := taleB b be k' (t'.oversTo j) :: all (recPs k'.vs (t'.oversTo j).recs) :: engP be bs' t'.e :: L) (by simp only [all]; ac_rfl))
    clear hs2 HA c0 c1 c6 c7 c8 f8
    obtain ⟨c0, c1, c6, c7, hrow⟩ := HOC.out _ _ _ (HL2.out j) HB.out
    obtain ⟨c8, f8⟩ := hrow j hlt
    rw [HONE.out j hlt] at c8
    rw [HOV.out] at c8
    by_cases ho : ov = 0
    ·by_cases he : s.2.2 = 0
     ·by_cases hc : 2 ≤ s.1
      ·have ht := HT.out ⟨ho, he, hc⟩
       have hso : ∀ W, S w0 W (taleB b be k' (t'.oversTo j) :: all (recPs k'.vs (t'.oversTo j).recs) :: engP be bs' t'.e :: L) → S w0 (W.setCell ⟨gw, ow + j, none⟩ (.int .i64 t'.steps)) (taleB b be k' (t'.oversTo (j + 1)) :: all (recPs k'.vs (t'.oversTo (j + 1)).recs) :: engP be bs' t'.e :: L) := fun W h => by
        rw [ht]
        exact h.tale_over (by rw [HL2.out j]; exact hlt) (by rw [HL2.out j]; exact HWV.out) t'.steps
       have hbo : (ov == 0) = true := by simpa using ho
       have hbs : decide (s.1 ≥ 2) = true := by simpa using hc
       rw [he, errV_0]
       have HSO := hid hso
       have hq : ∀ W, S w0 W (taleB b be k' (t'.oversTo j) :: all (recPs k'.vs (t'.oversTo j).recs) :: engP be bs' t'.e :: L) → W.cell? ⟨b, 6, none⟩ = some (.slice (some ⟨gw, ow, none⟩) n cw) ∧ W.cell? ⟨b, 7, none⟩ = some (.int .i64 (t'.oversTo j).steps) := fun W h => by
        have := HOC.out _ _ _ (HL2.out j) h
        exact ⟨this.over, this.steps⟩
       have HQ := hid hq
       clear hso ht ho he HT HY hrow hq
       go_upto_region 54 with fail
       clear c0 c1 c6 c7 c8 f8
       refine region_U (S := fun w' => w'.cell? ⟨b, 6, none⟩ = some (.slice (some ⟨gw, ow, none⟩) n cw) ∧ w'.cell? ⟨b, 7, none⟩ = some (.int .i64 (t'.oversTo j).steps)) (u := 10) (by kernel_rfl) (HQ.out _ HB.out.drew) (fun hHeld => ?_)
       refine anyU_take (i := 0) (v := ?_) rfl (by kernel_rfl) (fun _ _ _ h => h) (Or.inl ⟨by rfl, ?_⟩) hHeld ?_
       rotate_left
       ·(intro w hSw; (try dsimp only at hSw); go_simp) <;> with_reducible rfl
       try simp only [putU]
       refine anyU_take (i := 1) (v := ?_) rfl (by kernel_rfl) (fun _ _ _ h => h) (Or.inl ⟨by rfl, ?_⟩) hHeld ?_
       rotate_left
       ·(intro w hSw; (try dsimp only at hSw); go_simp) <;> with_reducible rfl
       try simp only [putU]
       refine anyU_take (i := 2) (v := ?_) rfl (by kernel_rfl) (fun _ _ _ h => h) (Or.inl ⟨by rfl, ?_⟩) hHeld ?_
       rotate_left
       ·(intro w hSw; (try dsimp only at hSw); go_simp) <;> with_reducible rfl
       try simp only [putU]
       refine anyU_take (i := 3) (v := ?_) rfl (by kernel_rfl) (fun _ _ _ h => h) (Or.inl ⟨by rfl, ?_⟩) hHeld ?_
       rotate_left
       ·(intro w hSw; (try dsimp only at hSw); go_simp) <;> with_reducible rfl
       try simp only [putU]
       refine anyU_take (i := 4) (v := ?_) rfl (by kernel_rfl) (fun _ _ _ h => h) (Or.inl ⟨by rfl, ?_⟩) hHeld ?_
       rotate_left
       ·(intro w hSw; (try dsimp only at hSw); go_simp) <;> with_reducible rfl
       try simp only [putU]
       refine anyU_take (i := 5) (v := ?_) rfl (by kernel_rfl) (fun _ _ _ h => h) (Or.inl ⟨by rfl, ?_⟩) hHeld ?_
       rotate_left
       ·(intro w hSw; (try dsimp only at hSw); go_simp) <;> with_reducible rfl
       try simp only [putU]
       refine anyU_take (i := 6) (v := ?_) rfl (by kernel_rfl) (fun _ _ _ h => h) (Or.inl ⟨by rfl, ?_⟩) hHeld ?_
       rotate_left
       ·(intro w hSw; (try dsimp only at hSw); go_simp) <;> with_reducible rfl
       try simp only [putU]
       refine anyU_take (i := 7) (v := ?_) rfl (by kernel_rfl) (fun _ _ _ h => h) (Or.inl ⟨by rfl, ?_⟩) hHeld ?_
       rotate_left
       ·(intro w hSw; (try dsimp only at hSw); go_simp) <;> with_reducible rfl
       try simp only [putU]
       refine anyU_take (i := 8) (v := ?_) rfl (by kernel_rfl) (fun _ _ _ h => h) (Or.inl ⟨by rfl, ?_⟩) hHeld ?_
       rotate_left
       ·(intro w hSw; (try dsimp only at hSw); go_simp) <;> with_reducible rfl
       try simp only [putU]
       refine anyU_take (i := 9) (v := ?_) rfl (by kernel_rfl) (fun _ _ _ h => h) (Or.inl ⟨by rfl, ?_⟩) hHeld ?_
       rotate_left
       ·(intro w hSw; (try dsimp only at hSw); go_simp) <;> with_reducible rfl
       try simp only [putU]
       have HS := hid HB.out.drew
       clear hHeld
       refine anyU_world (fun w => Hid (S w0 w _)) HS (fun w1 HS => ?_)
       refine anyU_next (rs := [10]) (by kernel_rfl) (by simp) ?_
       refine NextU.cons rfl (fun K hK => ?_) NextU.nil
       have hrw := (HOC.out _ _ _ (HL2.out j) HS.out).row j hlt
       obtain ⟨c8, f8⟩ := hrw
       go_simp
       refine hK.out _ _ goneU ?_
       clear hK K
       refine anyU_done (by kernel_rfl) ?_ _
       go_wp2_with fail
       go_roundw
       case rel => exact ⟨j + 1, by omega, by go_num, hid (HSO.out _ HS.out)⟩
       case measure => simp [intOf]; omega
      ·have ht := HY.out (fun h => hc h.2.2)
       have hbo : (ov == 0) = true := by simpa using ho
       have hbs : decide (s.1 ≥ 2) = false := by simpa using hc
       rw [he, errV_0]
       rw [← ht] at HB
       have HSO := HB
       clear ht ho he HT HY hrow hc HB
       go_wp2_with fail
       go_roundw
       case rel => exact ⟨j + 1, by omega, by go_num, HSO⟩
       case measure => simp [intOf]; omega
     ·have ht := HY.out (fun h => he h.2.1)
      have hbo : (ov == 0) = true := by simpa using ho
      rw [errV_ne he]
      rw [← ht] at HB
      have HSO := HB
      clear ht ho HT HY hrow HB he
      go_wp2_with fail
      go_roundw
      case rel => exact ⟨j + 1, by omega, by go_num, HSO⟩
      case measure => simp [intOf]; omega
    ·have ht := HY.out (fun h => ho h.1)
     have hbo : (ov == 0) = false := by simpa using ho
     rw [← ht] at HB
     have HSO := HB
     clear ht HT HY hrow HB ho
     go_wp2_with fail
     go_roundw
     case rel => exact ⟨j + 1, by omega, by go_num, HSO⟩
     case measure => simp [intOf]; omega
   ·obtain rfl : j = n := by omega
    have H9 := hid (S.t2_shut (t := t'.oversTo j) HR.out)
    clear hrow
    go_wp2_with fail
    refine bodyPost_end (v := .tuple #[]) (by simp [results, Tryz.results8, go_sem]) rfl ?_
    exact ⟨rfl, by rw [← HEND.out]; exact H9.out⟩
end Go.Proofs.YtcbokjocahnlcaaGreatDoor
