/- order.Line, walked. -/
import Derived.Test.YtcbokjocahnlcaaGreatDoorSt0
import Derived.Test.YtcbokjocahnlcaaGreatDoorSt17
import Derived.Test.YtcbokjocahnlcaaGreatDoorSt3
import Derived.Deep.RegionHeld3
import Derived.Deep.DeepCutAuto
import Derived.Deep.LoopGhost
/- order.Edges, walked. -/
namespace Go.Proofs.YtcbokjocahnlcaaGreatDoor
open Go Go.RowKit Go.Sep
theorem writers_put {l : List Op1} {M : List (Int × List Int)} {i : Nat} {o : Op1} (h : ∀ k, (mget M k).getD [] = writers (l.take i) k) (hp : l[i]? = some o) (hw : o.wr = true) (hl : (writers (l.take i) o.key).getLast? ≠ some o.tx) :
  ∀ k, (mget (mput M o.key (writers (l.take i) o.key ++ [o.tx])) k).getD [] = writers (l.take (i + 1)) k := by
 intro k
 rw [take_succ_get hp, writers_snoc, mget_put]
 unfold wstep wput
 by_cases e : k = o.key
 ·subst e
  simp [hw, hl]
 ·have e' : ¬ o.key = k := fun x => e x.symm
  simp [e, e', h k]
theorem writers_same {l : List Op1} {M : List (Int × List Int)} {i : Nat} {o : Op1} (h : ∀ k, (mget M k).getD [] = writers (l.take i) k) (hp : l[i]? = some o) (hw : o.wr = false ∨ (writers (l.take i) o.key).getLast? = some o.tx) :
  ∀ k, (mget M k).getD [] = writers (l.take (i + 1)) k := by
 intro k
 rw [take_succ_get hp, writers_snoc, h k]
 unfold wstep wput
 rcases hw with hw | hw
 ·simp [hw]
 ·by_cases e : o.key = k
  ·subst e
   simp [hw]
  ·simp [e]
theorem mput_le {κ ν : Type} [DecidableEq κ] (D : List (κ × ν)) (k : κ) (v : ν) : (mput D k v).length ≤ D.length + 1 := by
 unfold mput; split <;> simp
theorem idxFrom_cases (x : Int) : ∀ (l : List Int) (i : Nat), (Lib.idxFrom l x i = -1 ∧ x ∉ l) ∨ ∃ k : Nat, Lib.idxFrom l x i = ((i + k : Nat) : Int) ∧ k < l.length ∧ x ∈ l
 | [], i => .inl ⟨rfl, by simp⟩
 | y :: l, i => by
  unfold Lib.idxFrom
  by_cases h : y = x
  ·rw [if_pos h]
   exact .inr ⟨0, rfl, by simp, by simp [h]⟩
  ·rw [if_neg h]
   rcases idxFrom_cases x l (i + 1) with ⟨h1, h2⟩ | ⟨k, h1, h2, h3⟩
   ·exact .inl ⟨h1, by simp [h2]; exact fun e => h e.symm⟩
   ·exact .inr ⟨k + 1, by rw [h1]; congr 1; omega, by simpa using h2, by simp [h3]⟩
theorem idxOf_cases (l : List Int) (x : Int) : (Lib.idxOf l x = -1 ∧ x ∉ l) ∨ ∃ k : Nat, Lib.idxOf l x = k ∧ k < l.length ∧ x ∈ l := by
 rcases idxFrom_cases x l 0 with h | ⟨k, h1, h2⟩
 ·exact .inl h
 ·exact .inr ⟨k, by unfold Lib.idxOf; rw [h1]; congr 1; omega, h2⟩
theorem nodup_leO {α : Type} : ∀ {l m : List α}, l.Nodup → (∀ x ∈ l, x ∈ m) → l.length ≤ m.length
 | [], _, _, _ => Nat.zero_le _
 | a :: l, m, hn, hs => by
  obtain ⟨m1, m2, rfl⟩ := List.append_of_mem (hs a (by simp))
  rw [List.nodup_cons] at hn
  have := nodup_leO (l := l) (m := m1 ++ m2) hn.2 (fun x hx => by
   have h1 := hs x (by simp [hx])
   have hne : x ≠ a := fun e => hn.1 (by rw [← e]; exact hx)
   simp only [List.mem_append, List.mem_cons] at h1 ⊢
   rcases h1 with h | h | h
   ·exact .inl h
   ·exact absurd h hne
   ·exact .inr h)
  simp only [List.length_append, List.length_cons] at this ⊢; omega
theorem _root_.Go.Sep.S.edge_back {w0 w : World} {L : List HProp} {A B : HProp} {T bl : Nat} {E : List (Int × (Value × List Int))} {k : Int} {M : List (Int × List Int)}
  (h : S w0 w (A :: sl T 1 (lineOf E k).1 (lineOf E k).2.length (icells (lineOf E k).2) :: mlX T bl E k M :: B :: L)) : S w0 w (A :: mlM T bl E M :: L) := by
 have h1 := h.conv (M := sl T 1 (lineOf E k).1 (lineOf E k).2.length (icells (lineOf E k).2) :: mlX T bl E k M :: B :: A :: L) (by simp only [all]; ac_rfl)
 exact (h1.mlX_back.swap.tail).swap
def gE (p : Int × (Value × List Int)) : List (Int × Int) := wEdges p.2.2 (p.2.2.length - 1)
theorem gE_le {dn : List (Int × (Value × List Int))} (h : ∀ p ∈ dn, p.2.2.length ≤ 900) : (dn.flatMap gE).length ≤ dn.length * 900 := by
 induction dn with
 | nil => simp
 | cons p dn ih =>
  have h1 := wEdges_le p.2.2 (p.2.2.length - 1)
  have h2 := h p (by simp)
  have h3 := ih fun q hq => h q (by simp [hq])
  have h4 : (gE p).length ≤ 900 := by unfold gE; omega
  simp only [List.flatMap_cons, List.length_append, List.length_cons]
  omega
def EdgesPost (w0 : World) (l : List Op1) (L : List HProp) (e : Ending) (w' : World) : Prop :=
 if 0 ≤ badIx l then ∃ v, e = .returned (.tuple #[.slice none 0 0, v]) ∧ S w0 w' (errP 47 118 116 v (.at_ 2 (badIx l)) :: L)
 else match l.findIdx? (lostRead l) with
  | some k => ∃ v, e = .returned (.tuple #[.slice none 0 0, v]) ∧ S w0 w' (errP 47 118 116 v (.at_ 1 k) :: L)
  | none => ∃ v es, e = .returned (.tuple #[v, .nilIface]) ∧ EdgesOf l es ∧ es.length ≤ 1000000 ∧ S w0 w' (sl 44 2 v es.length (pcells es) :: L)
set_option maxRecDepth 40000 in
set_option maxHeartbeats 8000000 in
theorem edges_any (w0 w : World) (v : Value) (l : List Op1) (L : List HProp) (hs : S w0 w L) (hr : RdK w0 L v l.length (fcells ocells l)) (hb : l.length ≤ 900)
  (hbd : ∀ o ∈ l, o.tx ≤ 9223372036854775807 ∧ o.fr ≤ 9223372036854775807) :
  Calls Tryz.prog 42 #[v] w (EdgesPost w0 l L) := by
 obtain ⟨a, cap, hv, hcap, hcap2, _⟩ := hr w hs
 subst hv
 unfold maxLen at hcap2
 have hcall := bad_any w0 w _ l L hs hr (by omega)
 have HC := hid hcall; have HR := hid hr; have HBD := hid hbd
 clear hcall hr hs hbd
 go_enter Tryz.func42, Tryz.ntmps42
 go_wp2_with fail
 with_reducible refine HC.out.mono ?_
 rintro e w1 ⟨rfl, hs1⟩
 rcases badIx_cases l with ⟨hbx, hok⟩ | ⟨k, hbx, hkl, _⟩
 ·have hPost : ∀ e w', (match l.findIdx? (lostRead l) with
    | some k => ∃ v, e = Ending.returned (.tuple #[.slice none 0 0, v]) ∧ S w0 w' (errP 47 118 116 v (.at_ 1 k) :: L)
    | none => ∃ v es, e = Ending.returned (.tuple #[v, .nilIface]) ∧ EdgesOf l es ∧ es.length ≤ 1000000 ∧ S w0 w' (sl 44 2 v es.length (pcells es) :: L)) → EdgesPost w0 l L e w' := by
   intro e w' h
   unfold EdgesPost
   rw [if_neg (by omega)]
   exact h
  have HP := hid hPost; have HOK := hid hok
  clear hPost hok HC
  rw [hbx]
  have hs2 := hs1.ml_new (T := 3)
  have H2 := hid hs2
  clear hs1 hs2 hbx
  have hmm := @run_makeMap Tryz.prog
  go_wp2_with fail
  clear hmm
  go_loopw [29] (fun iv wr => ∃ (i : Nat) (E : List (Int × (Value × List Int))) (M : List (Int × List Int)), i ≤ l.length ∧ iv = .int .i64 i ∧ M.length ≤ i ∧ Hid (∀ k, (mget M k).getD [] = writers (l.take i) k) ∧ S w0 wr (mlM 3 w1.heap.size E M :: L)) (fun iv _ => l.length - (intOf iv).toNat)
  case atStart => exact ⟨0, [], [], Nat.zero_le _, rfl, Nat.le_refl _, hid (fun k => by simp [writers, mget_nil]), H2.out⟩
  case round =>
   obtain ⟨i, E, M, hi, rfl, hml, hM, hsr⟩ := hrel
   clear H2
   by_cases hlt : i < l.length
   ·have hp : l[i]? = some l[i] := by simp [hlt]
    generalize l[i] = p at hp
    obtain ⟨ob, oo, rfl, hcell⟩ := HR.out.fc ocells_length hsr.tail hp (by omega)
    obtain ⟨tx, key, wr', fr⟩ := p
    have d0 := hcell _ hsr.tail 0 _ rfl
    have d1 := hcell _ hsr.tail 1 _ rfl
    have d2 := hcell _ hsr.tail 2 _ rfl
    have d3 := hcell _ hsr.tail 3 _ rfl
    simp only [Nat.add_zero] at d0 d1 d2 d3
    have hs3 := (hsr.alloc #[.int .i64 tx, .int .i64 key, .bool wr', .int .i64 fr] 59).swap
    have hln := line_ofM hsr.ml_parts.1 key
    have hMk := hM.out key
    have lL := Tryz.lookL hs3.ml_see key
    have hkl := hs3.ml_line key
    obtain ⟨al, cl, hvl, hcl, hcl2, _⟩ := hkl.sl_val
    unfold maxLen at hcl2
    rw [hvl] at lL hkl
    rw [hln, hMk] at lL hkl hcl
    have HB := hid hs3.drew.swap.tail
    have hws := writers_le (l.take i) key
    rw [List.length_take] at hws
    have HP2 := hid hp
    clear hcell hsr hs3 hln hMk hvl hp
    cases wr' with
    | false =>
     have hM2 := writers_same hM.out HP2.out (.inl rfl)
     have HM := hid hM2
     clear hM2 hkl hM
     go_wp2_with fail
     go_region
     go_wp2_with fail
     go_roundw
     case rel => exact ⟨i + 1, E, M, by omega, by go_num, by omega, HM, HB.out⟩
     case measure => simp [intOf]; omega
    | true =>
     generalize hwse : writers (l.take i) key = ws at lL hkl hcl hws
     have hs5 := (hkl.alloc #[.int .i64 tx] 3).drew.drew
     rw [World.size_alloc] at hs5
     have hn5 := news_blk hs5
     have hs6 := hs5.tail
     have hbx := (hkl.of_mem (A := blk wr.heap.size 59 [.int .i64 tx, .int .i64 key, .bool true, .int .i64 fr]) (by simp))
     have hby := (hs6.of_mem (A := blk wr.heap.size 59 [.int .i64 tx, .int .i64 key, .bool true, .int .i64 fr]) (by simp))
     have b0 := hbx.blk_cell 0 rfl
     have b1 := hbx.blk_cell 1 rfl
     have b2 := hbx.blk_cell 2 rfl
     have g0 := hby.blk_cell 0 rfl
     have g1 := hby.blk_cell 1 rfl
     obtain ⟨i0, hi0, hz0, hz1, hz2⟩ := info_parts Tryz.info3
     have hil := icells_length ws
     have HL := hid hil
     have HA : Hid ((writers (l.take i) key).getLast? ≠ some tx → ∀ k, (mget (mput M key (ws ++ [tx])) k).getD [] = writers (l.take (i + 1)) k) := hid fun h => by
      have := writers_put hM.out HP2.out rfl h
      rw [hwse] at this
      exact this
     rw [hwse] at HA
     clear hil hbx hby hs5
     rcases List.eq_nil_or_concat ws with rfl | ⟨ini, q, hq⟩
     ·have H6 := hid hs6; have HN := hid hn5
      have HK := hid (HA.out (by simp))
      clear hkl hs6 hn5 hM HB HP2 HA
      simp only [List.length_nil] at lL
      go_wp2_with fail
      go_region
      go_wp2_with fail
      go_region_law (refine step_append rfl (.tmp 58) (.tmp 61) 30 rfl 3 i0 _ 1 8 Tryz.underlying30 hi0 hz0 hz1 hz2 rfl (by decide) H6.out rfl (some ⟨wr.heap.size + 1, 0, none⟩) 1 1 [.int .i64 tx] rfl rfl HN.out (by simp [Value.oneCell']) (by unfold maxLen; omega) (by omega) ?_; intro v1 w5 hs7; have q1 := (hs7.of_mem (A := blk wr.heap.size 59 [.int .i64 tx, .int .i64 key, .bool true, .int .i64 fr]) (by simp)).blk_cell 1 rfl; obtain ⟨w6, u6, hs8⟩ := S.mlX_put Tryz.keyInt Tryz.underlying90 (k := key) (v := v1) (l := [] ++ [tx]) (by simpa [icells] using hs7); simp only [Sep.encI] at u6; have HS := hid hs8.swap.tail; clear hs7 hs8)
      all_goals
       go_wp2_with fail
       go_roundw
       case rel => exact ⟨i + 1, _, _, by omega, by go_num, Nat.le_trans (mput_le _ _ _) (by omega), HK, HS.out⟩
       case measure => simp [intOf]; omega
     ·have hwl : ws.length = ini.length + 1 := by rw [hq]; simp
      have hqg : ws[ini.length]? = some q := by rw [hq]; simp
      have hlast : ws.getLast? = some q := by rw [hq]; simp
      clear hq
      generalize ini.length = n at hwl hqg
      obtain ⟨gw, ow, rfl, _, d9⟩ := hkl.sl_int hqg
      have hj1 : ((n : Int) + 1) - 1 = n := by omega
      have hn0 : ((n : Int) + 1 == 0) = false := by rw [beq_eq_false_iff_ne]; omega
      rw [hwl] at lL hcl hs6 hws
      by_cases hqt : q = tx
      ·subst hqt
       have hne : (q != q) = false := by simp
       have hM2 := writers_same hM.out HP2.out (.inr (by rw [hwse]; exact hlast))
       have HM := hid hM2
       clear hM2 hkl hM hs6 hn5 HA HL HP2 hlast hqg hwse hwl
       go_wp2_with fail
       go_region
       go_wp2_with fail
       go_roundw
       case rel => exact ⟨i + 1, E, M, by omega, by go_num, by omega, HM, HB.out⟩
       case measure => simp [intOf]; omega
      ·have hne : (q != tx) = true := by simpa using hqt
       have H6 := hid hs6; have HN := hid hn5
       have HK := hid (HA.out (by rw [hlast]; simpa using hqt))
       have HL2 : Hid (ws.length = n + 1) := hid hwl
       clear hkl hs6 hn5 hM HB HP2 HA HL hqt hlast hqg hwse hwl
       go_wp2_with fail
       go_region
       go_wp2_with fail
       go_region_law (refine step_append rfl (.tmp 58) (.tmp 61) 30 rfl 3 i0 _ 1 8 Tryz.underlying30 hi0 hz0 hz1 hz2 rfl (by decide) H6.out rfl (some ⟨wr.heap.size + 1, 0, none⟩) 1 1 [.int .i64 tx] rfl rfl HN.out (by simp [Value.oneCell']) (by unfold maxLen; omega) (by omega) ?_; intro v1 w5 hs7; have q1 := (hs7.of_mem (A := blk wr.heap.size 59 [.int .i64 tx, .int .i64 key, .bool true, .int .i64 fr]) (by simp)).blk_cell 1 rfl; obtain ⟨w6, u6, hs8⟩ := S.mlX_put Tryz.keyInt Tryz.underlying90 (k := key) (v := v1) (l := ws ++ [tx]) (by rw [List.length_append, List.length_singleton, HL2.out, icells_append]; exact hs7); simp only [Sep.encI] at u6; have HS := hid hs8.swap.tail; clear hs7 hs8)
       all_goals
        go_wp2_with fail
        go_roundw
        case rel => exact ⟨i + 1, _, _, by omega, by go_num, Nat.le_trans (mput_le _ _ _) (by omega), HK, HS.out⟩
        case measure => simp [intOf]; omega
   ·--P2
    obtain rfl : i = l.length := by omega
    have hM1 := hM.out
    rw [List.take_length] at hM1
    have HM := hid hM1
    clear hM hM1
    have hp1 := hsr.ml_parts.1
    have hel : E.length = M.length := by rw [← hp1, List.length_map]
    have hnd := hsr.ml_nodup
    have hs4 := S.out_intro (tv := 37) (te := 44) (l := []) ((hsr.alloc #[.slice none 0 0] 37).perm (M := _ :: _) (List.Perm.refl _) |>.sl_nil.swap)
    obtain ⟨hp2, hs5⟩ := hs4.swap.ml_parts
    obtain ⟨w3, ur, hs6⟩ := hs5.range (P := Tryz.prog) Tryz.underlying90
    rw [World.size_alloc] at ur hs6
    have H6 := hid (hs6.conv (M := outP 37 44 wr.heap.size [] :: ranging Sep.encI (fun _ => True) w1.heap.size (wr.heap.size + 1) (E.map fun p => (p.1, p.2.1)) [] :: all (E.map (lrow 3)) :: L) (by simp only [all]; ac_rfl))
    have HND := hid hnd; have HP1 := hid hp1
    clear hsr hs4 hs5 hs6 hp1 hp2 hnd
    have hwl : ∀ p ∈ E, p.2.2.length ≤ 900 := fun p hp => by
     have h1 : (p.1, p.2.2) ∈ M := by rw [← HP1.out]; exact List.mem_map.2 ⟨p, hp, rfl⟩
     have h2 := HM.out p.1
     rw [mget_mem (by rw [← HP1.out]; simpa [List.map_map, Function.comp_def] using HND.out) h1] at h2
     simp only [Option.getD_some] at h2
     rw [h2]; exact Nat.le_trans (writers_le _ _) hb
    have HWL := hid hwl
    clear hwl
    go_wp2_with fail
    go_loopg [13] (E.length) (fun n _ wx => ∃ dn : List (Int × (Value × List Int)), E.length ≤ dn.length + n ∧ (∀ p ∈ dn, p ∈ E) ∧
     S w0 wx (outP 37 44 wr.heap.size (dn.flatMap gE) :: ranging Sep.encI (fun _ => True) w1.heap.size (wr.heap.size + 1) (E.map fun p => (p.1, p.2.1)) (dn.map fun p => (p.1, p.2.1)) :: all (E.map (lrow 3)) :: L))
    case atStart => exact ⟨[], by simp, by simp, H6.out⟩
    case round =>
     rename World => wx
     obtain ⟨dn, hn, hsub, hsr⟩ := hrel
     clear H6 ur
     rcases hsr.swap.next Tryz.keyInt (ty := 0) with ⟨d, w4, hd1, hd2, hr, hs4⟩ | ⟨hall, hr⟩
     ·obtain ⟨p, hp, rfl⟩ := List.mem_map.1 hd1
      have hent := hs4.entry (P := Tryz.prog)
      have hsn : (dn.map fun p : Int × (Value × List Int) => (p.1, p.2.1)) ++ [(p.1, p.2.1)] = (dn ++ [p]).map fun p => (p.1, p.2.1) := by simp
      rw [hsn] at hs4
      simp only [Sep.encI] at hr hent
      have hlen : (dn ++ [p]).length ≤ E.length := by
       have h1 := hs4.ranging_sub
       have h2 := nodup_leO h1.1 h1.2.1
       simpa using h2
      rw [List.length_append, List.length_singleton] at hlen
      have hpl := HWL.out p hp
      have hol := gE_le (dn := dn) fun q hq => HWL.out q (hsub q hq)
      have hsub2 : ∀ q ∈ dn ++ [p], q ∈ E := fun q hq => by
       rcases List.mem_append.1 hq with h | h
       ·exact hsub q h
       ·rw [List.mem_singleton] at h; subst h; exact hp
      have hfm : (dn ++ [p]).flatMap gE = dn.flatMap gE ++ gE p := by simp
      obtain ⟨E1, E2, hE⟩ := List.append_of_mem hp
      have hq : all (E.map (lrow 3)) = sep (lrow 3 p) (all ((E1 ++ E2).map (lrow 3))) := by
       rw [hE]; simp only [List.map_append, List.map_cons, all_append, all]; ac_rfl
      have hs5 := hs4.conv (M := outP 37 44 wr.heap.size (dn.flatMap gE) :: sl 3 1 p.2.1 p.2.2.length (icells p.2.2) :: ranging Sep.encI (fun _ => True) w1.heap.size (wr.heap.size + 1) (E.map fun p => (p.1, p.2.1)) ((dn ++ [p]).map fun p => (p.1, p.2.1)) :: all ((E1 ++ E2).map (lrow 3)) :: L) (by simp only [all]; rw [hq]; unfold lrow; ac_rfl)
      obtain ⟨pk, pv, ws⟩ := p
      simp only at hs5 hr hent hpl hlen
      obtain ⟨al, cl, rfl, hcl, hcl2, _⟩ := hs5.swap.sl_val
      unfold maxLen at hcl2
      have H5 := hid hs5; have HQ := hid hq; have HF := hid hfm; have HS2 := hid hsub2
      clear hs5 hs4 hsr hd1 hd2 hp hsn hE hq hfm hsub hsub2
      go_wp2_with fail
      clear hr hent
      go_loopw [13] (fun iv wy => ∃ j : Nat, (j + 1 ≤ ws.length ∨ j = 0) ∧ iv = .int .i64 ((j : Int) + 1) ∧
       S w0 wy (outP 37 44 wr.heap.size (dn.flatMap gE ++ wEdges ws j) :: sl 3 1 (.slice al ws.length cl) ws.length (icells ws) :: ranging Sep.encI (fun _ => True) w1.heap.size (wr.heap.size + 1) (E.map fun p => (p.1, p.2.1)) ((dn ++ [((pk, (Value.slice al ws.length cl, ws)) : Int × (Value × List Int))]).map fun p => (p.1, p.2.1)) :: all ((E1 ++ E2).map (lrow 3)) :: L)) (fun iv _ => ws.length - (intOf iv).toNat)
      case atStart => exact ⟨0, .inr rfl, rfl, by rw [show wEdges ws 0 = [] from rfl, List.append_nil]; exact H5.out⟩
      case round =>
       rename World => wy
       obtain ⟨j, hj, rfl, hsr⟩ := hrel
       clear H5
       by_cases hjl : j + 1 < ws.length
       ·have hpa : ws[j]? = some ws[j] := by rw [List.getElem?_eq_getElem]
        have hpb : ws[j + 1]? = some ws[j + 1] := by simp [hjl]
        generalize ws[j] = x at hpa
        generalize ws[j + 1] = y at hpb
        have hwe : wEdges ws (j + 1) = wEdges ws j ++ addE x y := by simp only [wEdges, hpa, hpb]
        have hle := wEdges_le ws j
        obtain ⟨ga, oa, rfl, _, d0⟩ := hsr.swap.sl_int hpa
        obtain ⟨gb, ob, hgb, _, d1⟩ := hsr.swap.sl_int (a := some ⟨ga, oa, none⟩) hpb
        obtain ⟨rfl, rfl⟩ : ga = gb ∧ oa = ob := by simpa using hgb
        have hj1 : (j : Int) + 1 - 1 = j := by omega
        have hjw : j < ws.length := by omega
        have hj9 : j ≤ 900 := by omega
        have hj0 : (0 : Int) ≤ (j : Int) + 1 := by omega
        have hwr : IntKind.i64.wrap (j : Int) = j := IntWalk.i64_in _ (by omega)
        have hbl : (dn.flatMap gE ++ wEdges ws j).length ≤ 1000000 := by rw [List.length_append]; omega
        have H7 := hid hsr.drew; have HW := hid hwe
        clear hsr hpa hpb hwe hgb
        go_wp2_with fail
        go_region_law (go_simp; first | (go_at_call 57; with_reducible refine (add_any w0 _ _ _ x y _ H7.out hbl).mono ?_; rintro e w5 ⟨rfl, hs5⟩; rw [List.append_assoc, ← HW.out] at hs5; have H8 := hid hs5; clear hs5))
        all_goals
         go_wp2_with fail
         go_roundw
         case rel => exact ⟨j + 1, by omega, by go_num, H8.out⟩
         case measure => simp [intOf]; omega
       ·have hjj : wEdges ws j = gE (pk, (Value.slice al ws.length cl, ws)) := by
         unfold gE
         show wEdges ws j = wEdges ws (ws.length - 1)
         congr 1
         omega
        have HJ := hid hjj; have H7 := hid hsr
        clear hsr hjj
        go_wp2_with fail
        go_roundg (gk - 1)
        case measure => omega
        case rel => exact ⟨dn ++ [(pk, (Value.slice al ws.length cl, ws))], by rw [List.length_append, List.length_singleton]; omega, HS2.out, by
         rw [HF.out, ← HJ.out]
         exact H7.out.conv (by simp only [all]; rw [HQ.out]; unfold lrow; ac_rfl)⟩
     ·--P3
      obtain ⟨hpd, hs4⟩ := hsr.swap.range_over hall
      have hmem : ∀ x, (∃ d ∈ M, x ∈ wEdges d.2 (d.2.length - 1)) ↔ x ∈ dn.flatMap gE := by
       intro x
       rw [List.mem_flatMap, ← HP1.out]
       constructor
       ·rintro ⟨d, hd, hx⟩
        obtain ⟨p, hp, rfl⟩ := List.mem_map.1 hd
        obtain ⟨q, hq, he⟩ := List.mem_map.1 (hall _ (List.mem_map.2 ⟨p, hp, rfl⟩))
        have h1 := mget_mem HND.out (show (p.1, p.2) ∈ E from hp)
        have h2 := mget_mem HND.out (show (q.1, q.2) ∈ E from hsub q hq)
        have h3 : q.1 = p.1 := (Prod.mk.inj he).1
        rw [h3, h1] at h2
        refine ⟨q, hq, ?_⟩
        have h4 : p.2 = q.2 := Option.some.inj h2
        unfold gE
        rw [← h4]; exact hx
       ·rintro ⟨q, hq, hx⟩
        exact ⟨(q.1, q.2.2), List.mem_map.2 ⟨q, hsub q hq, rfl⟩, hx⟩
      have hdl : dn.length ≤ 900 := by
       have h1 := hpd.length_eq
       simp only [List.length_map] at h1
       omega
      have hol := gE_le (dn := dn) fun q hq => HWL.out q (hsub q hq)
      have hfin := (S.ml_join HP1.out (hs4.conv (M := mp Sep.encI (fun _ => True) w1.heap.size (E.map fun p => (p.1, p.2.1)) :: all (E.map (lrow 3)) :: outP 37 44 wr.heap.size (dn.flatMap gE) :: L) (by simp only [all]; ac_rfl))).swap
      generalize dn.flatMap gE = O1 at hmem hol hfin
      have HME := hid hmem; have H8 := hid hfin
      have ho1 : O1.length ≤ 810000 := by omega
      clear hsr hall hs4 hpd hmem hfin hsub hol hdl hn HWL
      go_wp2_with fail
      go_loopw [90] (fun iv wz => ∃ i : Nat, i ≤ l.length ∧ iv = .int .i64 i ∧ Hid (∀ j < i, ∀ o, l[j]? = some o → lostRead l o = false) ∧
       S w0 wz (outP 37 44 wr.heap.size (O1 ++ rEdges l (l.take i)) :: mlM 3 w1.heap.size E M :: L)) (fun iv _ => l.length - (intOf iv).toNat)
      case atStart => exact ⟨0, Nat.zero_le _, rfl, hid (fun _ h => absurd h (Nat.not_lt_zero _)), by simpa [rEdges] using H8.out⟩
      case round =>
       rename World => wz
       obtain ⟨i, hi, rfl, hlo, hsr⟩ := hrel
       clear H8
       have hrl := rEdges_le l (l.take i)
       rw [List.length_take] at hrl
       have hol : (O1 ++ rEdges l (l.take i)).length ≤ 900000 := by rw [List.length_append]; omega
       by_cases hlt : i < l.length
       ·have hp : l[i]? = some l[i] := by simp [hlt]
        generalize l[i] = p at hp
        obtain ⟨ob, oo, rfl, hcell⟩ := HR.out.fc ocells_length hsr.tail.tail hp (by omega)
        obtain ⟨tx, key, wr', fr⟩ := p
        have d0 := hcell _ hsr.tail.tail 0 _ rfl
        have d1 := hcell _ hsr.tail.tail 1 _ rfl
        have d2 := hcell _ hsr.tail.tail 2 _ rfl
        have d3 := hcell _ hsr.tail.tail 3 _ rfl
        simp only [Nat.add_zero] at d0 d1 d2 d3
        have hs3 := hsr.alloc #[.int .i64 tx, .int .i64 key, .bool wr', .int .i64 fr] 59
        have hst : rEdges l (l.take (i + 1)) = rEdges l (l.take i) ++ rEdge (writers l key) ⟨tx, key, wr', fr⟩ := by rw [take_succ_get hp, rEdges_snoc]
        have hnext : lostRead l ⟨tx, key, wr', fr⟩ = false → ∀ j < i + 1, ∀ o, l[j]? = some o → lostRead l o = false := by
         intro h j hj o ho
         rcases Nat.lt_or_ge j i with h1 | h1
         ·exact hlo.out j h1 o ho
         ·obtain rfl : j = i := by omega
          rw [hp] at ho; cases ho; exact h
        have hMk := HM.out key
        have hln := line_ofM HP1.out key
        have lL := Tryz.lookL hs3.rot3.ml_see key
        have HNX := hid hnext
        clear hcell hsr hnext
        cases wr' with
        | true =>
         have HLO := hid (HNX.out (by simp [lostRead]))
         have H9 := hid hs3.tail
         have HST := hid hst
         clear hs3 hst hMk hln hlo hp
         go_wp2_with fail
         go_roundw
         case rel => exact ⟨i + 1, by omega, by go_num, HLO, by rw [HST.out]; simp only [rEdge, ↓reduceIte, List.append_nil]; exact H9.out⟩
         case measure => simp [intOf]; omega
        | false =>
         have hkl := hs3.rot3.ml_line key
         obtain ⟨al, cl, hvl, hcl, hcl2, _⟩ := hkl.sl_val
         unfold maxLen at hcl2
         rw [hvl] at lL hkl
         rw [hln, hMk] at lL hkl hcl
         rw [hln, hMk] at hvl
         have hwl := writers_le l key
         have HVL := hid hvl; have HLN := hid (hln.trans hMk)
         generalize hwse : writers l key = ws at lL hkl hcl hwl hst HVL HLN
         have hix := ixint_any w0 _ _ ws fr _ hkl RdK.own (by omega)
         have HIX := hid hix
         have H9 := hid (hkl.conv (M := outP 37 44 wr.heap.size (O1 ++ rEdges l (l.take i)) :: sl 3 1 (.slice al ws.length cl) ws.length (icells ws) :: mlX 3 w1.heap.size E key M :: blk wz.heap.size 59 [.int .i64 tx, .int .i64 key, .bool false, .int .i64 fr] :: L) (by simp only [all]; ac_rfl))
         clear hs3 hvl hln hMk hkl hix
         go_wp2_with fail
         with_reducible refine HIX.out.mono ?_
         rintro e w4 ⟨rfl, rfl⟩
         rcases idxOf_cases ws fr with ⟨hx, hnm⟩ | ⟨k, hx, hkl, hmem⟩
         ·by_cases hfr : fr = 0
          ·subst hfr
           have hw0 : IntKind.i64.wrap 0 = 0 := by decide
           have HLO := hid (HNX.out (by simp [lostRead]))
           have hnx : nextOf ws 0 = ws[0]? := by unfold nextOf; rw [hx]; congr 1
           have hre : rEdge ws ⟨tx, key, false, 0⟩ = addE 0 tx ++ (match ws[0]? with | some b => addE tx b | none => []) := by unfold rEdge; rw [hnx]; rfl
           rw [hre] at hst
           have HST := hid hst
           have hol1 : (O1 ++ rEdges l (l.take i)).length ≤ 1000000 := by omega
           rw [hx]
           clear hnx hre hst hx hnm hlo hp hwse HIX lL HNX
           by_cases hnl : 0 < ws.length
           ·have hpy : ws[0]? = some ws[0] := by simp [hnl]
            generalize ws[0] = y at hpy
            go_wp2_with (go_at_call 57; with_reducible refine (add_any w0 _ _ _ 0 tx _ H9.out hol1).mono ?_; rintro e w5 ⟨rfl, hs5⟩; have q0 := (hs5.of_mem (A := blk wz.heap.size 59 [.int .i64 tx, .int .i64 key, .bool false, .int .i64 0]) (by simp)).blk_cell 0 rfl; have H10 := hid hs5; clear hs5)
            obtain ⟨ga, oa, rfl, _, d9⟩ := H10.out.swap.sl_int hpy
            rw [Nat.add_zero] at d9
            have hol2 : ((O1 ++ rEdges l (l.take i)) ++ addE 0 tx).length ≤ 1000000 := by have := addE_le 0 tx; rw [List.length_append]; omega
            have H11 := hid H10.out.drew
            rw [hpy] at HST
            clear hpy
            go_region_law (go_simp; first | (go_at_call 57; with_reducible refine (add_any w0 _ _ _ tx y _ H11.out hol2).mono ?_; rintro e w6 ⟨rfl, hs6⟩; have H12 := hid (hs6.conv (M := outP 37 44 wr.heap.size ((O1 ++ rEdges l (l.take i)) ++ addE 0 tx ++ addE tx y) :: sl 3 1 (lineOf E key).1 (lineOf E key).2.length (icells (lineOf E key).2) :: mlX 3 w1.heap.size E key M :: blk wz.heap.size 59 [.int .i64 tx, .int .i64 key, .bool false, .int .i64 0] :: L) (by rw [HVL.out, HLN.out])); clear hs6))
            all_goals
             go_wp2_with fail
             go_roundw
             case rel => exact ⟨i + 1, by omega, by go_num, HLO, by rw [HST.out, ← List.append_assoc, ← List.append_assoc]; exact S.edge_back H12.out⟩
             case measure => simp [intOf]; omega
           ·have hpy : ws[0]? = none := List.getElem?_eq_none (by omega)
            have hnl4 : (ws.length : Int) ≤ 0 := by omega
            go_wp2_with (go_at_call 57; with_reducible refine (add_any w0 _ _ _ 0 tx _ H9.out hol1).mono ?_; rintro e w5 ⟨rfl, hs5⟩; have q0 := (hs5.of_mem (A := blk wz.heap.size 59 [.int .i64 tx, .int .i64 key, .bool false, .int .i64 0]) (by simp)).blk_cell 0 rfl; have H10 := hid hs5; clear hs5)
            rw [hpy] at HST
            have H12 := hid (H10.out.conv (M := outP 37 44 wr.heap.size ((O1 ++ rEdges l (l.take i)) ++ addE 0 tx) :: sl 3 1 (lineOf E key).1 (lineOf E key).2.length (icells (lineOf E key).2) :: mlX 3 w1.heap.size E key M :: blk wz.heap.size 59 [.int .i64 tx, .int .i64 key, .bool false, .int .i64 0] :: L) (by rw [HVL.out, HLN.out]))
            clear hpy
            go_roundw
            case rel => exact ⟨i + 1, by omega, by go_num, HLO, by rw [HST.out, ← List.append_assoc]; simp only [List.append_nil]; exact S.edge_back H12.out⟩
            case measure => simp [intOf]; omega
          ·have hlk : lostRead l ⟨tx, key, false, fr⟩ = true := by simp [lostRead, hfr, hwse, hnm]
           have hfi : l.findIdx? (lostRead l) = some i := by
            rw [List.findIdx?_eq_some_iff_getElem]
            refine ⟨hlt, ?_, fun j hj => ?_⟩
            ·obtain ⟨_, h2⟩ := List.getElem?_eq_some_iff.1 hp
             rw [h2]; exact hlk
            ·have := hlo.out j hj l[j] (by rw [List.getElem?_eq_getElem])
             simp [this]
           have hfr1 : (fr != 0) = true := by simpa using hfr
           have hfin := (H9.out.tail.tail.tail.tail).alloc #[.int .i64 1, .int .i64 i] 118
           rw [World.size_alloc] at hfin
           have HF := hid hfin; have HFI := hid hfi
           rw [hx]
           clear hlk hfi hfin hfr hx hnm hlo hp hwse HIX lL HNX hst
           go_wp2_with fail
           go_ret2
           refine HP.out _ _ ?_
           rw [HFI.out]
           exact ⟨_, rfl, .ex_intro (wz.heap.size + 1) (.sep_intro (.pur_intro rfl HF.out))⟩
         ·have hnm : fr ∈ ws := hmem
          have HLO := hid (HNX.out (by simp [lostRead, hwse, hmem]))
          have hk9 : k ≤ 900 := by omega
          have hwk : IntKind.i64.wrap ((k : Int) + 1) = (k : Int) + 1 := IntWalk.i64_in _ (by omega)
          have hwk2 : IntKind.i64.wrap (k : Int) = (k : Int) := IntWalk.i64_in _ (by omega)
          clear hmem
          have hnx : nextOf ws fr = ws[(k + 1)]? := by unfold nextOf; rw [hx]; congr 1
          have hre : rEdge ws ⟨tx, key, false, fr⟩ = addE fr tx ++ (match ws[(k + 1)]? with | some b => addE tx b | none => []) := by unfold rEdge; rw [hnx]; rfl
          rw [hre] at hst
          have HST := hid hst
          have hol1 : (O1 ++ rEdges l (l.take i)).length ≤ 1000000 := by omega
          rw [hx]
          clear hnx hre hst hx hnm hlo hp hwse HIX lL HNX
          by_cases hnl : (k + 1) < ws.length
          ·have hpy : ws[(k + 1)]? = some ws[(k + 1)] := by simp [hnl]
           generalize ws[(k + 1)] = y at hpy
           go_wp2_with (go_at_call 57; with_reducible refine (add_any w0 _ _ _ fr tx _ H9.out hol1).mono ?_; rintro e w5 ⟨rfl, hs5⟩; have q0 := (hs5.of_mem (A := blk wz.heap.size 59 [.int .i64 tx, .int .i64 key, .bool false, .int .i64 fr]) (by simp)).blk_cell 0 rfl; have H10 := hid hs5; clear hs5)
           obtain ⟨ga, oa, rfl, _, d9⟩ := H10.out.swap.sl_int hpy
           have hk0 : (0 : Int) ≤ (k : Int) + 1 := by omega
           have hol2 : ((O1 ++ rEdges l (l.take i)) ++ addE fr tx).length ≤ 1000000 := by have := addE_le fr tx; rw [List.length_append]; omega
           have H11 := hid H10.out.drew
           rw [hpy] at HST
           clear hpy
           go_region_law (go_simp; first | (go_at_call 57; with_reducible refine (add_any w0 _ _ _ tx y _ H11.out hol2).mono ?_; rintro e w6 ⟨rfl, hs6⟩; have H12 := hid (hs6.conv (M := outP 37 44 wr.heap.size ((O1 ++ rEdges l (l.take i)) ++ addE fr tx ++ addE tx y) :: sl 3 1 (lineOf E key).1 (lineOf E key).2.length (icells (lineOf E key).2) :: mlX 3 w1.heap.size E key M :: blk wz.heap.size 59 [.int .i64 tx, .int .i64 key, .bool false, .int .i64 fr] :: L) (by rw [HVL.out, HLN.out])); clear hs6))
           all_goals
            go_wp2_with fail
            go_roundw
            case rel => exact ⟨i + 1, by omega, by go_num, HLO, by rw [HST.out, ← List.append_assoc, ← List.append_assoc]; exact S.edge_back H12.out⟩
            case measure => simp [intOf]; omega
          ·have hpy : ws[(k + 1)]? = none := List.getElem?_eq_none (by omega)
           have hnl4 : (ws.length : Int) ≤ (k : Int) + 1 := by omega
           go_wp2_with (go_at_call 57; with_reducible refine (add_any w0 _ _ _ fr tx _ H9.out hol1).mono ?_; rintro e w5 ⟨rfl, hs5⟩; have q0 := (hs5.of_mem (A := blk wz.heap.size 59 [.int .i64 tx, .int .i64 key, .bool false, .int .i64 fr]) (by simp)).blk_cell 0 rfl; have H10 := hid hs5; clear hs5)
           rw [hpy] at HST
           have H12 := hid (H10.out.conv (M := outP 37 44 wr.heap.size ((O1 ++ rEdges l (l.take i)) ++ addE fr tx) :: sl 3 1 (lineOf E key).1 (lineOf E key).2.length (icells (lineOf E key).2) :: mlX 3 w1.heap.size E key M :: blk wz.heap.size 59 [.int .i64 tx, .int .i64 key, .bool false, .int .i64 fr] :: L) (by rw [HVL.out, HLN.out]))
           clear hpy
           go_roundw
           case rel => exact ⟨i + 1, by omega, by go_num, HLO, by rw [HST.out, ← List.append_assoc]; simp only [List.append_nil]; exact S.edge_back H12.out⟩
           case measure => simp [intOf]; omega
       ·--P5
        obtain rfl : i = l.length := by omega
        rw [List.take_length] at hsr hol
        have hall : ∀ o ∈ l, lostRead l o = false := fun o ho => by
         obtain ⟨j, hj⟩ := List.getElem?_of_mem ho
         exact hlo.out j (List.getElem?_eq_some_iff.1 hj).1 o hj
        have hO : ∀ p, p ∈ O1 ++ rEdges l l ↔ Edge l p := fun p =>
         Edge.found HM.out (by rw [← HP1.out]; simpa [List.map_map, Function.comp_def] using HND.out) (fun x => by rw [List.mem_append, ← HME.out]) p
        have hbound : ∀ p ∈ O1 ++ rEdges l l, boundP p := fun p hp => by
         obtain ⟨⟨o1, h1, e1⟩, o2, h2, e2⟩ := ((hO p).1 hp).txs hall
         have b1 := HOK.out o1 h1
         have b2 := HOK.out o2 h2
         have c1 := (HBD.out o1 h1).1
         have c2 := (HBD.out o2 h2).1
         simp only [badOp, decide_eq_false_iff_not] at b1 b2
         unfold boundP
         omega
        have hfi : l.findIdx? (lostRead l) = none := by
         rw [List.findIdx?_eq_none_iff]
         intro o ho; simp [hall o ho]
        have HFI := hid hfi; have HO := hid hO; have HB := hid hbound
        generalize O1 ++ rEdges l l = O at hsr hol HO HB
        obtain ⟨v9, hs9⟩ := hsr.out_elim
        obtain ⟨a9, c9, rfl, _, _, _⟩ := hs9.swap.sl_val
        have q9 := hs9.blk_cell 0 rfl
        have H9 := hid hs9.swap
        clear hsr hs9 hall hO hbound hfi hlo
        go_wp2_with fail
        with_reducible refine (sortW_any w0 _ _ O _ H9.out (by omega) HB.out).mono ?_
        rintro e w5 ⟨rfl, srt, hperm, hsorted, hs5⟩
        have hsl : srt.length = O.length := hperm.length_eq
        have q9 := hs5.swap.blk_cell 0 rfl
        have hEO : EdgesOf l (compactP srt) := edgesOf_compact HO.out hperm hsorted
        have hcl := compactP_le srt
        have hse : srt.length ≤ 1000000 := by omega
        have H10 := hid hs5; have HEO := hid hEO
        clear hs5 hperm hsorted hEO hsl
        go_wp2_with fail
        with_reducible refine (compact_any w0 _ _ srt _ H10.out hse).mono ?_
        rintro e w6 ⟨v6, rfl, hs6⟩
        have H11 := hid hs6
        clear hs6
        go_wp2_with fail
        go_ret2
        refine HP.out _ _ ?_
        rw [HFI.out]
        exact ⟨_, _, rfl, HEO.out, by omega, (H11.out.conv (M := blk wr.heap.size 37 [.slice a9 O.length c9] :: mlM 3 w1.heap.size E M :: sl 44 2 v6 (compactP srt).length (pcells (compactP srt)) :: L) (by simp only [all]; ac_rfl)).tail.tail⟩
 ·have hfin := hs1.alloc #[.int .i64 2, .int .i64 k] 118
  have HF := hid hfin
  rw [hbx]
  have hb0 : 0 ≤ badIx l := by omega
  have HB0 := hid hb0; have HBX := hid hbx
  clear hfin hs1 HC hbx hb0
  go_wp2_with fail
  go_ret2
  unfold EdgesPost
  rw [if_pos HB0.out, HBX.out]
  exact ⟨_, rfl, .ex_intro w1.heap.size (.sep_intro (.pur_intro rfl HF.out))⟩
end Go.Proofs.YtcbokjocahnlcaaGreatDoor
/- How a line comes of counts: in plain words. -/
namespace Go.Proofs.YtcbokjocahnlcaaGreatDoor
open Go Go.Sep
def tabF (ts : List Int) (f : Int → Int) : List (Int × Int) := ts.map fun x => (x, f x)
theorem tabF_get (ts : List Int) (f : Int → Int) (k : Int) : mget (tabF ts f) k = if k ∈ ts then some (f k) else none := by
 induction ts with
 | nil => simp [tabF, mget_nil]
 | cons x ts ih =>
  simp only [tabF, List.map_cons, mget_cons] at ih ⊢
  rw [ih]
  by_cases h : x = k
  ·simp [h]
  ·have h' : ¬ k = x := fun e => h e.symm
   simp [h, h']
theorem tabF_put {ts : List Int} {k : Int} (f : Int → Int) (hk : k ∈ ts) (v : Int) : mput (tabF ts f) k v = tabF ts fun x => if x = k then v else f x := by
 unfold mput
 rw [tabF_get, if_pos hk]
 simp only [Option.isSome_some, ↓reduceIte]
 simp only [tabF, List.map_map]
 apply List.map_congr_left
 intro x _
 by_cases h : x = k <;> simp [h]
theorem tabF_put_new {ts : List Int} {k : Int} (f : Int → Int) (hk : k ∉ ts) : mput (tabF ts f) k (f k) = tabF (ts ++ [k]) f := by
 unfold mput
 rw [tabF_get, if_neg hk]
 simp [tabF]
theorem tabF_del (ts : List Int) (f : Int → Int) (k : Int) : mdel (tabF ts f) k = tabF (ts.filter fun x => decide (x ≠ k)) f := by
 unfold mdel tabF
 rw [List.filter_map]
 rfl
theorem tabF_congr {ts : List Int} {f g : Int → Int} (h : ∀ x ∈ ts, f x = g x) : tabF ts f = tabF ts g := by
 apply List.map_congr_left
 intro x hx; rw [h x hx]
theorem tab_zero (l : List Op1) (i : Nat) (o : Op1) (hp : l[i]? = some o) : mput (tabF (txsOf (l.take i)) fun _ => 0) o.tx 0 = tabF (txsOf (l.take (i + 1))) fun _ => 0 := by
 have e : l.take (i + 1) = l.take i ++ [o] := by rw [List.take_add_one, hp]; rfl
 rw [e, txsOf_snoc]
 unfold tstep
 by_cases h : o.tx ∈ txsOf (l.take i)
 ·rw [if_pos h, tabF_put _ h]
  apply tabF_congr
  intro x _; split <;> rfl
 ·rw [if_neg h]
  exact tabF_put_new (fun _ => 0) h
def into (es : List (Int × Int)) (x : Int) : Int := ((es.filter fun e => decide (e.2 = x)).length : Nat)
theorem into_snoc (es : List (Int × Int)) (e : Int × Int) (x : Int) : into (es ++ [e]) x = if x = e.2 then into es x + 1 else into es x := by
 unfold into
 rw [List.filter_append, List.length_append]
 by_cases h : x = e.2
 ·subst h; simp
 ·have h' : ¬ e.2 = x := fun e' => h e'.symm
  simp [h, h']
def indeg (es : List (Int × Int)) (rem : List Int) (x : Int) : Int := ((es.filter fun e => decide (e.2 = x) && decide (e.1 ∈ rem)).length : Nat)
theorem indeg_all {es : List (Int × Int)} {rem : List Int} (h : ∀ e ∈ es, e.1 ∈ rem) (x : Int) : indeg es rem x = into es x := by
 unfold indeg into
 congr 2
 apply List.filter_congr
 intro e he
 simp [h e he]
theorem indeg_zero (es : List (Int × Int)) (rem : List Int) (x : Int) : indeg es rem x = 0 ↔ free es rem x = true := by
 unfold indeg free
 rw [List.all_eq_true]
 constructor
 ·intro h e he
  have h1 : (es.filter fun e => decide (e.2 = x) && decide (e.1 ∈ rem)) = [] := List.eq_nil_of_length_eq_zero (by omega)
  have h2 := List.filter_eq_nil_iff.1 h1 e he
  rw [Bool.not_eq_true']
  exact Bool.eq_false_iff.2 h2
 ·intro h
  have : (es.filter fun e => decide (e.2 = x) && decide (e.1 ∈ rem)) = [] := List.filter_eq_nil_iff.2 fun e he => by
   have h3 := h e he
   rw [Bool.not_eq_true'] at h3
   rw [h3]; simp
  rw [this]; rfl
theorem indeg_nonneg (es : List (Int × Int)) (rem : List Int) (x : Int) : 0 ≤ indeg es rem x ∧ indeg es rem x ≤ es.length := by
 unfold indeg
 have := List.length_filter_le (fun e : Int × Int => decide (e.2 = x) && decide (e.1 ∈ rem)) es
 omega
def outOf (es : List (Int × Int)) (b x : Int) : Int := ((es.filter fun e => decide (e.1 = b) && decide (e.2 = x)).length : Nat)
theorem outOf_snoc (es : List (Int × Int)) (e : Int × Int) (b x : Int) : outOf (es ++ [e]) b x = if e.1 = b ∧ x = e.2 then outOf es b x + 1 else outOf es b x := by
 unfold outOf
 rw [List.filter_append, List.length_append]
 by_cases h : x = e.2
 ·subst h
  by_cases h2 : e.1 = b <;> simp [h2]
 ·have h' : ¬ e.2 = x := fun e' => h e'.symm
  simp [h, h']
theorem outOf_le (es : List (Int × Int)) (b x : Int) : 0 ≤ outOf es b x ∧ outOf es b x ≤ es.length := by
 unfold outOf
 have := List.length_filter_le (fun e : Int × Int => decide (e.1 = b) && decide (e.2 = x)) es
 omega
theorem indeg_step {rem : List Int} {b : Int} (hb : b ∈ rem) (x : Int) : ∀ es : List (Int × Int), indeg es rem x - outOf es b x = indeg es (rem.filter fun y => decide (y ≠ b)) x
 | [] => by simp [indeg, outOf]
 | e :: es => by
  have ih := indeg_step hb x es
  unfold indeg outOf at ih ⊢
  simp only [List.filter_cons]
  by_cases h1 : e.2 = x <;> by_cases h2 : e.1 = b
  ·have h3 : e.1 ∈ rem := h2 ▸ hb
   have h4 : e.1 ∉ rem.filter fun y => decide (y ≠ b) := by simp [h2]
   simp [h1, h2, hb] at ih ⊢
   omega
  ·by_cases h3 : e.1 ∈ rem <;> simp [h1, h2, h3] at ih ⊢ <;> omega
  ·simp [h1] at ih ⊢; omega
  ·simp [h1] at ih ⊢; omega
structure Left2 (es : List (Int × Int)) (l : List Op1) (rem out : List Int) : Prop where
 nodup : rem.Nodup
 down : ∀ e ∈ es, e.1 ∈ rem → e.2 ∈ rem
 sub : ∀ x ∈ rem, x ∈ txsOf l
 eq : ∃ n, rem.length ≤ n ∧ lineL es (txsOf l).length (txsOf l) = (lineL es n rem).map (out ++ ·)
theorem Left2.start {es : List (Int × Int)} {l : List Op1} (h : ∀ e ∈ es, e.2 ∈ txsOf l) : Left2 es l (txsOf l) [] :=
 ⟨txsOf_nodup l, fun e he _ => h e he, fun _ h => h, _, Nat.le_refl _, by simp⟩
theorem Left2.done {es : List (Int × Int)} {l : List Op1} {out : List Int} (h : Left2 es l [] out) : lineL es (txsOf l).length (txsOf l) = some out := by
 obtain ⟨n, _, hn⟩ := h.eq
 rw [hn]
 cases n <;> simp [lineL]
theorem Left2.stuck {es : List (Int × Int)} {l : List Op1} {rem out : List Int} (h : Left2 es l rem out) (hne : rem ≠ []) (hf : rem.filter (free es rem) = []) : lineL es (txsOf l).length (txsOf l) = none := by
 obtain ⟨n, hl, hn⟩ := h.eq
 rw [hn]
 cases n with
 | zero => exact absurd (List.eq_nil_of_length_eq_zero (by omega)) hne
 | succ n =>
  simp only [lineL]
  rw [if_neg hne, hf]
  simp [least]
theorem Left2.step {es : List (Int × Int)} {l : List Op1} {rem out : List Int} {b : Int} (h : Left2 es l rem out) (hb : b ∈ rem) (hfr : free es rem b = true) (hle : ∀ x ∈ rem, free es rem x = true → b ≤ x) :
  Left2 es l (rem.filter fun x => decide (x ≠ b)) (out ++ [b]) ∧ ∀ e ∈ es, e.1 = b → e.2 ∈ rem.filter fun x => decide (x ≠ b) := by
 obtain ⟨n, hl, hn⟩ := h.eq
 have hne : rem ≠ [] := fun e => by rw [e] at hb; simp at hb
 have hdown : ∀ e ∈ es, e.1 ∈ rem → e.2 ∈ rem ∧ e.2 ≠ b := fun e he h1 => ⟨h.down e he h1, fun e2 => by
  have := List.all_eq_true.1 hfr e he
  simp [e2, h1] at this⟩
 refine ⟨⟨h.nodup.filter _, fun e he h1 => ?_, fun x hx => h.sub x (List.mem_filter.1 hx).1, ?_⟩, fun e he h1 => ?_⟩
 ·obtain ⟨h2, h3⟩ := hdown e he (List.mem_filter.1 h1).1
  exact List.mem_filter.2 ⟨h2, by simpa using h3⟩
 ·cases n with
  | zero => exact absurd (List.eq_nil_of_length_eq_zero (by omega)) hne
  | succ n =>
   have hlt := filter_ne_length hb
   refine ⟨n, by omega, ?_⟩
   rw [hn]
   simp only [lineL]
   rw [if_neg hne]
   have : least (rem.filter (free es rem)) = some b := least_eq (List.mem_filter.2 ⟨hb, hfr⟩) fun x hx => hle x (List.mem_filter.1 hx).1 (List.mem_filter.1 hx).2
   rw [this]
   show ((lineL es n (rem.filter fun x => decide (x ≠ b))).map (b :: ·)).map (out ++ ·) = (lineL es n (rem.filter fun x => decide (x ≠ b))).map ((out ++ [b]) ++ ·)
   rw [Option.map_map]
   congr 1
   funext x
   simp
 ·obtain ⟨h2, h3⟩ := hdown e he (h1 ▸ hb)
  exact List.mem_filter.2 ⟨h2, by simpa using h3⟩
def Best (best : Int) (dn : List (Int × Int)) : Prop := (best = -1 ∧ ∀ p ∈ dn, p.2 ≠ 0) ∨ (0 ≤ best ∧ (best, 0) ∈ dn ∧ ∀ p ∈ dn, p.2 = 0 → best ≤ p.1)
theorem Best.start : Best (-1) [] := .inl ⟨rfl, by simp⟩
theorem Best.snoc {best : Int} {dn : List (Int × Int)} (h : Best best dn) (p : Int × Int) (hp : 0 ≤ p.1) : Best (if p.2 = 0 ∧ (best < 0 ∨ p.1 < best) then p.1 else best) (dn ++ [p]) := by
 obtain ⟨k, n⟩ := p
 simp only at hp ⊢
 by_cases h0 : n = 0
 ·subst h0
  rcases h with ⟨rfl, h1⟩ | ⟨h1, h2, h3⟩
  ·rw [if_pos ⟨rfl, .inl (by omega)⟩]
   refine .inr ⟨hp, by simp, fun q hq hq0 => ?_⟩
   rcases List.mem_append.1 hq with hq | hq
   ·exact absurd hq0 (h1 q hq)
   ·rw [List.mem_singleton] at hq; subst hq; exact Int.le_refl _
  ·by_cases hlt : k < best
   ·rw [if_pos ⟨rfl, .inr hlt⟩]
    refine .inr ⟨hp, by simp, fun q hq hq0 => ?_⟩
    rcases List.mem_append.1 hq with hq | hq
    ·have := h3 q hq hq0; omega
    ·rw [List.mem_singleton] at hq; subst hq; exact Int.le_refl _
   ·rw [if_neg (by omega)]
    refine .inr ⟨h1, by simp [h2], fun q hq hq0 => ?_⟩
    rcases List.mem_append.1 hq with hq | hq
    ·exact h3 q hq hq0
    ·rw [List.mem_singleton] at hq; subst hq; show best ≤ k; omega
 ·rw [if_neg (fun h => h0 h.1)]
  rcases h with ⟨rfl, h1⟩ | ⟨h1, h2, h3⟩
  ·refine .inl ⟨rfl, fun q hq => ?_⟩
   rcases List.mem_append.1 hq with hq | hq
   ·exact h1 q hq
   ·rw [List.mem_singleton] at hq; subst hq; exact h0
  ·refine .inr ⟨h1, by simp [h2], fun q hq hq0 => ?_⟩
   rcases List.mem_append.1 hq with hq | hq
   ·exact h3 q hq hq0
   ·rw [List.mem_singleton] at hq; subst hq; exact absurd hq0 h0
theorem Best.all {es : List (Int × Int)} {rem : List Int} {best : Int} {dn : List (Int × Int)} (h : Best best dn) (hp : dn.Perm (tabF rem (indeg es rem))) :
  (best = -1 ∧ rem.filter (free es rem) = []) ∨ (0 ≤ best ∧ best ∈ rem ∧ free es rem best = true ∧ ∀ x ∈ rem, free es rem x = true → best ≤ x) := by
 have hm : ∀ x, x ∈ rem → (x, indeg es rem x) ∈ dn := fun x hx => hp.mem_iff.2 (List.mem_map.2 ⟨x, hx, rfl⟩)
 rcases h with ⟨h1, h2⟩ | ⟨h1, h2, h3⟩
 ·refine .inl ⟨h1, List.filter_eq_nil_iff.2 fun x hx hf => ?_⟩
  exact h2 _ (hm x hx) ((indeg_zero _ _ _).2 hf)
 ·obtain ⟨x, hx, he⟩ := List.mem_map.1 (hp.mem_iff.1 h2)
  simp only [Prod.mk.injEq] at he
  obtain ⟨rfl, he⟩ := he
  exact .inr ⟨h1, hx, (indeg_zero _ _ _).1 he, fun y hy hf => h3 _ (hm y hy) ((indeg_zero _ _ _).2 hf)⟩
end Go.Proofs.YtcbokjocahnlcaaGreatDoor
namespace Go.Proofs.YtcbokjocahnlcaaGreatDoor
open Go Go.RowKit Go.Sep
def LinePost (w0 : World) (l : List Op1) (L : List HProp) (e : Ending) (w' : World) : Prop :=
 if 0 ≤ badIx l then ∃ v, e = .returned (.tuple #[.slice none 0 0, v]) ∧ S w0 w' (errP 47 118 116 v (.at_ 2 (badIx l)) :: L)
 else match l.findIdx? (lostRead l) with
  | some k => ∃ v, e = .returned (.tuple #[.slice none 0 0, v]) ∧ S w0 w' (errP 47 118 116 v (.at_ 1 k) :: L)
  | none => ∃ es, EdgesOf l es ∧ match lineL es (txsOf l).length (txsOf l) with
   | some out => ∃ v, e = .returned (.tuple #[v, .nilIface]) ∧ out.length ≤ 900 ∧ S w0 w' (sl 3 1 v out.length (icells out) :: L)
   | none => e = .returned (.tuple #[.slice none 0 0, .iface 47 (.int .i64 11)]) ∧ S w0 w' L
set_option maxRecDepth 40000 in
set_option maxHeartbeats 8000000 in
theorem line_any (w0 w : World) (v : Value) (l : List Op1) (L : List HProp) (hs : S w0 w L) (hr : RdK w0 L v l.length (fcells ocells l)) (hb : l.length ≤ 900)
  (hbd : ∀ o ∈ l, o.tx ≤ 9223372036854775807 ∧ o.fr ≤ 9223372036854775807) :
  Calls Tryz.prog 21 #[v] w (LinePost w0 l L) := by
 obtain ⟨a, cap, hv, hcap, hcap2, _⟩ := hr w hs
 subst hv
 unfold maxLen at hcap2
 have hcall := edges_any w0 w _ l L hs hr hb hbd
 have HC := hid hcall; have HR := hid hr
 clear hcall hr hs hbd
 go_enter Tryz.func21, Tryz.ntmps21
 go_wp2_with fail
 with_reducible refine HC.out.mono ?_
 intro e w1 h
 clear HC
 unfold EdgesPost at h
 by_cases hbx : 0 ≤ badIx l
 ·rw [if_pos hbx] at h
  obtain ⟨v1, rfl, hs1⟩ := h
  obtain ⟨g, hs2⟩ := hs1.ex_elim
  obtain ⟨rfl, hs3⟩ := hs2.sep_elim.pur_elim
  have H1 := hid hs1; have HB := hid hbx
  clear hs1 hs2 hs3 hbx
  go_wp2_with fail
  go_ret2
  unfold LinePost
  rw [if_pos HB.out]
  exact ⟨_, rfl, H1.out⟩
 ·rw [if_neg hbx] at h
  have hPost : ∀ e w', (match l.findIdx? (lostRead l) with
    | some k => ∃ v, e = Ending.returned (.tuple #[.slice none 0 0, v]) ∧ S w0 w' (errP 47 118 116 v (.at_ 1 k) :: L)
    | none => ∃ es, EdgesOf l es ∧ match lineL es (txsOf l).length (txsOf l) with
     | some out => ∃ v, e = Ending.returned (.tuple #[v, .nilIface]) ∧ out.length ≤ 900 ∧ S w0 w' (sl 3 1 v out.length (icells out) :: L)
     | none => e = Ending.returned (.tuple #[.slice none 0 0, .iface 47 (.int .i64 11)]) ∧ S w0 w' L) → LinePost w0 l L e w' := by
   intro e w' h
   unfold LinePost
   rw [if_neg hbx]
   exact h
  have hpos : ∀ x ∈ txsOf l, 1 ≤ x := by
   intro x hx
   obtain ⟨o, ho, rfl⟩ := (txsOf_mem l x).1 hx
   rcases badIx_cases l with ⟨_, h2⟩ | ⟨k, h2, _⟩
   ·have := h2 o ho
    simp only [badOp, decide_eq_false_iff_not] at this
    omega
   ·omega
  have HP := hid hPost; have HPOS := hid hpos
  clear hPost hpos hbx
  cases hfi : l.findIdx? (lostRead l) with
  | some k =>
   rw [hfi] at h
   obtain ⟨v1, rfl, hs1⟩ := h
   obtain ⟨g, hs2⟩ := hs1.ex_elim
   obtain ⟨rfl, hs3⟩ := hs2.sep_elim.pur_elim
   have H1 := hid hs1
   have HFI := hid hfi
   clear hs1 hs2 hs3 hfi
   go_wp2_with fail
   go_ret2
   refine HP.out _ _ ?_
   rw [HFI.out]
   exact ⟨_, rfl, H1.out⟩
  | none =>
   rw [hfi] at h
   obtain ⟨v1, es, rfl, hES, hel, hs1⟩ := h
   obtain ⟨a1, c1, rfl, hc1, hc2, _⟩ := hs1.sl_val
   unfold maxLen at hc2
   have hlost : ∀ o ∈ l, lostRead l o = false := by
    rw [List.findIdx?_eq_none_iff] at hfi
    intro o ho; simpa using hfi o ho
   have htx : ∀ e ∈ es, e.1 ∈ txsOf l ∧ e.2 ∈ txsOf l := fun e he => by
    obtain ⟨x, y⟩ := ((hES.2 e).1 he).txs hlost
    exact ⟨(txsOf_mem _ _).2 x, (txsOf_mem _ _).2 y⟩
   have HTX := hid htx; have HES := hid hES; have HFI := hid hfi
   have hs2 := (hs1.made (enc := Sep.encI) (ok := fun _ => True))
   have H2 : Hid (S w0 (w1.alloc (.map #[] 0)) (mp Sep.encI (fun _ => True) w1.heap.size (ienc (tabF (txsOf (l.take 0)) fun _ => 0)) :: sl 44 2 (.slice a1 es.length c1) es.length (pcells es) :: L)) := hid hs2
   have hmm := @run_makeMap Tryz.prog
   clear hs1 hs2 hlost htx hES hfi
   go_wp2_with fail
   clear hmm
   go_loopw [28] (fun iv wr => ∃ i : Nat, i ≤ l.length ∧ iv = .int .i64 i ∧ S w0 wr (mp Sep.encI (fun _ => True) w1.heap.size (ienc (tabF (txsOf (l.take i)) fun _ => 0)) :: sl 44 2 (.slice a1 es.length c1) es.length (pcells es) :: L)) (fun iv _ => l.length - (intOf iv).toNat)
   case atStart => exact ⟨0, Nat.zero_le _, rfl, H2.out⟩
   case round =>
    obtain ⟨i, hi, rfl, hsr⟩ := hrel
    clear H2
    by_cases hlt : i < l.length
    ·have hp : l[i]? = some l[i] := by simp [hlt]
     generalize l[i] = p at hp
     obtain ⟨ob, oo, rfl, hcell⟩ := HR.out.fc ocells_length hsr.tail.tail hp (by omega)
     have htz := tab_zero l i p hp
     obtain ⟨tx, key, wr', fr⟩ := p
     have d0 := hcell _ hsr.tail.tail 0 _ rfl
     have d1 := hcell _ hsr.tail.tail 1 _ rfl
     have d2 := hcell _ hsr.tail.tail 2 _ rfl
     have d3 := hcell _ hsr.tail.tail 3 _ rfl
     simp only [Nat.add_zero] at d0 d1 d2 d3
     have hs3 := hsr.alloc #[.int .i64 tx, .int .i64 key, .bool wr', .int .i64 fr] 59
     have l1 := Tryz.look1 hs3.swap.mapAt tx
     have hg0 : (mget (tabF (txsOf (l.take i)) fun _ => 0) tx).getD 0 = 0 := by rw [tabF_get]; split <;> rfl
     rw [hg0] at l1
     obtain ⟨w2, u2, hs4⟩ := hs3.swap.put Tryz.keyInt Tryz.underlying57 tx trivial (Sep.encI 0)
     rw [ienc_put, htz] at hs4
     simp only [Sep.encI] at u2
     have H4 := hid hs4.swap.tail
     clear hsr hs3 hs4 hcell htz hg0 hp
     go_wp2_with fail
     go_roundw
     case rel => exact ⟨i + 1, by omega, by go_num, H4.out⟩
     case measure => simp [intOf]; omega
    ·--P2
     obtain rfl : i = l.length := by omega
     rw [List.take_length] at hsr
     have hi0 : tabF (txsOf l) (into (es.take 0)) = tabF (txsOf l) fun _ => 0 := tabF_congr fun x _ => by simp [into]
     rw [← hi0] at hsr
     have H3 := hid hsr
     clear hsr hi0
     go_wp2_with fail
     go_loopw [40] (fun iv wr => ∃ i : Nat, i ≤ es.length ∧ iv = .int .i64 i ∧ S w0 wr (mp Sep.encI (fun _ => True) w1.heap.size (ienc (tabF (txsOf l) (into (es.take i)))) :: sl 44 2 (.slice a1 es.length c1) es.length (pcells es) :: L)) (fun iv _ => es.length - (intOf iv).toNat)
     case atStart => exact ⟨0, Nat.zero_le _, rfl, H3.out⟩
     case round =>
      obtain ⟨i, hi, rfl, hsr⟩ := hrel
      clear H3
      by_cases hlt : i < es.length
      ·have hp : es[i]? = some es[i] := by simp [hlt]
       generalize es[i] = p at hp
       obtain ⟨g, og, rfl, _, d0, d1⟩ := hsr.swap.sl_pair hp
       have hmem := (HTX.out p (List.mem_of_getElem? hp)).2
       have hle : 0 ≤ into (es.take i) p.2 ∧ into (es.take i) p.2 ≤ 1000000 := by
        unfold into
        have := List.length_filter_le (fun e : Int × Int => decide (e.2 = p.2)) (es.take i)
        rw [List.length_take] at this
        omega
       have hs3 := hsr.alloc #[.int .i64 p.1, .int .i64 p.2] 44
       have l1 := Tryz.look1 hs3.swap.mapAt p.2
       rw [tabF_get, if_pos hmem] at l1
       simp only [Option.getD_some] at l1
       obtain ⟨w2, u2, hs4⟩ := hs3.swap.put Tryz.keyInt Tryz.underlying57 p.2 trivial (Sep.encI (into (es.take i) p.2 + 1))
       have hput : mput (tabF (txsOf l) (into (es.take i))) p.2 (into (es.take i) p.2 + 1) = tabF (txsOf l) (into (es.take (i + 1))) := by
        rw [tabF_put _ hmem]
        apply tabF_congr
        intro x _
        rw [take_succ_get hp, into_snoc]
        by_cases e : x = p.2
        ·simp [e]
        ·simp [e]
       rw [ienc_put, hput] at hs4
       simp only [Sep.encI] at u2
       generalize into (es.take i) p.2 = c at hle l1 u2 hput
       have hwc : IntKind.i64.wrap (c + 1) = c + 1 := IntWalk.i64_in _ (by omega)
       have H4 := hid hs4.swap.tail
       clear hsr hs3 hs4 hput hmem hp
       go_wp2_with fail
       go_roundw
       case rel => exact ⟨i + 1, by omega, by go_num, H4.out⟩
       case measure => simp [intOf]; omega
      ·--P3
       obtain rfl : i = es.length := by omega
       rw [List.take_length] at hsr
       have hin : tabF (txsOf l) (into es) = tabF (txsOf l) (indeg es (txsOf l)) := tabF_congr fun x _ => (indeg_all (fun e he => (HTX.out e he).1) x).symm
       rw [hin] at hsr
       have hL2 := Left2.start (l := l) (es := es) fun e he => (HTX.out e he).2
       have hts := txsOf_le l
       have HL2 := hid hL2
       have H5 := hid (hsr.sl_nil (e := 3) (size := 1))
       clear hsr hin hL2
       go_wp2_with fail
       go_loopg [11] ((txsOf l).length) (fun n ov wr => ∃ (rem out : List Int), Hid (Left2 es l rem out) ∧ rem.length ≤ n ∧ rem.length + out.length ≤ 900 ∧
        S w0 wr (sl 3 1 ov out.length (icells out) :: mp Sep.encI (fun _ => True) w1.heap.size (ienc (tabF rem (indeg es rem))) :: sl 44 2 (.slice a1 es.length c1) es.length (pcells es) :: L))
       case atStart => exact ⟨txsOf l, [], HL2, Nat.le_refl _, by simp; omega, H5.out⟩
       case round =>
        obtain ⟨rem, out, hL2, hrn, hro, hsr⟩ := hrel
        obtain ⟨gm, hgm⟩ : ∃ m, m = gk := ⟨_, rfl⟩
        clear H5 HL2
        have hln := run_len_at (P := Tryz.prog) (t := 57) (ty := 3) Tryz.underlying57 hsr.swap.mapAt
        have hll : (ienc (tabF rem (indeg es rem))).length = rem.length := by simp [ienc, tabF]
        rw [hll] at hln
        by_cases hr0 : rem = []
        ·subst hr0
         have hd := hL2.out.done
         obtain ⟨ao, co, rfl, _, _, _⟩ := hsr.sl_val
         have HD := hid hd; have H6 := hid hsr
         clear hd hsr hll
         simp only [List.length_nil] at hln
         go_wp2_with fail
         go_ret2
         refine HP.out _ _ ?_
         rw [HFI.out]
         refine ⟨es, HES.out, ?_⟩
         rw [HD.out]
         exact ⟨_, rfl, by omega, (H6.out.conv (M := mp Sep.encI (fun _ => True) w1.heap.size (ienc (tabF [] (indeg es []))) :: sl 44 2 (.slice a1 es.length c1) es.length (pcells es) :: sl 3 1 (.slice ao out.length co) out.length (icells out) :: L) (by simp only [all]; ac_rfl)).tail.tail⟩
        ·have hrl : 0 < rem.length := List.length_pos_iff.2 hr0
         obtain ⟨ao, co, rfl, hco, hco2, _⟩ := hsr.sl_val
         obtain ⟨w3, ur, hs3⟩ := hsr.swap.range (P := Tryz.prog) Tryz.underlying57
         have hT : ∀ p ∈ tabF rem (indeg es rem), 0 ≤ p.1 := fun p hp => by
          obtain ⟨x, hx, rfl⟩ := List.mem_map.1 hp
          have := HPOS.out x (hL2.out.sub x hx)
          show 0 ≤ x; omega
         have hTl : (tabF rem (indeg es rem)).length = rem.length := by simp [tabF]
         have H6 := hid hs3; have HT := hid hT; have HTL := hid hTl; have HR0 := hid hr0
         clear hsr hs3 hll hT hTl hr0
         go_wp2_with fail
         clear ur hln
         generalize hTe : tabF rem (indeg es rem) = T at H6 HT HTL
         have HTE := hid hTe
         clear hTe
         go_loopg [12] (rem.length) (fun n bv wx => ∃ (best : Int) (dn : List (Int × Int)), bv = .int .i64 best ∧ rem.length ≤ dn.length + n ∧ Hid (Best best dn) ∧
          S w0 wx (ranging Sep.encI (fun _ => True) w1.heap.size wr.heap.size (ienc T) (ienc dn) :: sl 3 1 (.slice ao out.length co) out.length (icells out) :: sl 44 2 (.slice a1 es.length c1) es.length (pcells es) :: L))
         case atStart => exact ⟨-1, [], rfl, by simp, hid Best.start, H6.out⟩
         case round =>
          obtain ⟨best, dn, rfl, hn, hbest, hsr⟩ := hrel
          clear H6
          rcases hsr.next Tryz.keyInt (ty := 0) with ⟨d, w4, hd1, hd2, hr, hs4⟩ | ⟨hall, hr⟩
          ·obtain ⟨p, hp, rfl⟩ := ienc_mem hd1
           have hent := hs4.entry (P := Tryz.prog)
           rw [ienc_snoc] at hs4
           simp only [Sep.encI] at hr hent
           have hlen : (dn ++ [p]).length ≤ rem.length := by
            have h1 := hs4.ranging_sub
            have h2 := nodup_leO h1.1 h1.2.1
            rw [← HTL.out]
            simpa [ienc] using h2
           rw [List.length_append, List.length_singleton] at hlen
           have hsn := hbest.out.snoc p (HT.out p hp)
           obtain ⟨k, c⟩ := p
           simp only at hr hent hsn
           have HS := hid hsn; have H7 := hid hs4
           clear hsr hs4 hd1 hd2 hp hsn hbest
           by_cases hc : c = 0
           ·subst hc
            have hbe : ((0 : Int) == 0) = true := rfl
            by_cases hb0 : best < 0
            ·have HS2 := HS.out
             rw [if_pos ⟨rfl, .inl hb0⟩] at HS2
             have HS3 := hid HS2
             clear HS HS2
             go_wp2_with fail
             go_roundg (gk - 1)
             case measure => omega
             case rel => exact ⟨k, dn ++ [(k, 0)], rfl, by rw [List.length_append, List.length_singleton]; omega, HS3, H7.out⟩
            ·have hb1 : 0 ≤ best := by omega
             by_cases hk : k < best
             ·have HS2 := HS.out
              rw [if_pos ⟨rfl, .inr hk⟩] at HS2
              have HS3 := hid HS2
              clear HS HS2
              go_wp2_with fail
              go_roundg (gk - 1)
              case measure => omega
              case rel => exact ⟨k, dn ++ [(k, 0)], rfl, by rw [List.length_append, List.length_singleton]; omega, HS3, H7.out⟩
             ·have hk1 : best ≤ k := by omega
              have HS2 := HS.out
              rw [if_neg (by omega)] at HS2
              have HS3 := hid HS2
              clear HS HS2
              go_wp2_with fail
              go_roundg (gk - 1)
              case measure => omega
              case rel => exact ⟨best, dn ++ [(k, 0)], rfl, by rw [List.length_append, List.length_singleton]; omega, HS3, H7.out⟩
           ·have hbe : (c == 0) = false := by simpa using hc
            have HS2 := HS.out
            rw [if_neg (fun h => hc h.1)] at HS2
            have HS3 := hid HS2
            clear HS HS2 hc
            go_wp2_with fail
            go_roundg (gk - 1)
            case measure => omega
            case rel => exact ⟨best, dn ++ [(k, c)], rfl, by rw [List.length_append, List.length_singleton]; omega, HS3, H7.out⟩
          ·obtain ⟨hpd, hs4⟩ := hsr.range_over hall
           have hpm := ienc_perm hpd
           rw [← HTE.out] at hpm
           have hba := hbest.out.all hpm
           rw [← HTE.out] at hs4
           clear hsr hall hpd hpm hbest hn
           rcases hba with ⟨rfl, hf⟩ | ⟨hb0, hbm, hbf, hbl⟩
           ·have hst := hL2.out.stuck HR0.out hf
            have HST := hid hst; have H7 := hid hs4.tail.tail.tail
            clear hst hs4 hf
            go_wp2_with fail
            go_ret2
            refine HP.out _ _ ?_
            rw [HFI.out]
            refine ⟨es, HES.out, ?_⟩
            rw [HST.out]
            exact ⟨rfl, H7.out⟩
           ·obtain ⟨hst, hdn⟩ := hL2.out.step hbm hbf hbl
            obtain ⟨w5, u5, hs5⟩ := hs4.del Tryz.keyInt (ty := 0) Tryz.underlying57 best trivial
            rw [ienc_del, tabF_del] at hs5
            simp only [Sep.encI] at u5
            have hlt := filter_ne_length hbm
            have his := fun x => indeg_step hbm x es
            have hib : ∀ x, 0 ≤ indeg es rem x ∧ indeg es rem x ≤ 1000000 := fun x => by have := indeg_nonneg es rem x; omega
            generalize hre : rem.filter (fun x => decide (x ≠ best)) = rem2 at hst hdn hs5 hlt his
            have hz : tabF rem2 (indeg es rem) = tabF rem2 fun x => indeg es rem x - outOf (es.take 0) best x := tabF_congr fun x _ => by simp [outOf]
            rw [hz] at hs5
            have HST := hid hst; have HDN := hid hdn; have HIS := hid his; have HIB := hid hib; have H8 := hid hs5
            clear hst hdn hs4 hs5 hbm hbf hbl hre his hz hib
            go_wp2_with fail
            go_loopw [79] (fun iv wx => ∃ i : Nat, i ≤ es.length ∧ iv = .int .i64 i ∧ S w0 wx (mp Sep.encI (fun _ => True) w1.heap.size (ienc (tabF rem2 fun x => indeg es rem x - outOf (es.take i) best x)) :: sl 3 1 (.slice ao out.length co) out.length (icells out) :: sl 44 2 (.slice a1 es.length c1) es.length (pcells es) :: L)) (fun iv _ => es.length - (intOf iv).toNat)
            case atStart => exact ⟨0, Nat.zero_le _, rfl, H8.out⟩
            case round =>
             rename World => wx
             obtain ⟨i, hi, rfl, hsr⟩ := hrel
             clear H8
             by_cases hlt2 : i < es.length
             ·have hp : es[i]? = some es[i] := by simp [hlt2]
              generalize es[i] = p at hp
              obtain ⟨g, og, rfl, _, d0, d1⟩ := hsr.rot3.sl_pair hp
              have hs3 := hsr.alloc #[.int .i64 p.1, .int .i64 p.2] 44
              have htk : es.take (i + 1) = es.take i ++ [p] := take_succ_get hp
              by_cases hpb : p.1 = best
              ·have hmem := HDN.out p (List.mem_of_getElem? hp) hpb
               have hle := HIB.out p.2
               have hol := outOf_le (es.take i) best p.2
               have htl : (es.take i).length ≤ 1000000 := by rw [List.length_take]; omega
               have l1 := Tryz.look1 hs3.swap.mapAt p.2
               rw [tabF_get, if_pos hmem] at l1
               simp only [Option.getD_some] at l1
               obtain ⟨w6, u6, hs6⟩ := hs3.swap.put Tryz.keyInt Tryz.underlying57 p.2 trivial (Sep.encI (indeg es rem p.2 - outOf (es.take i) best p.2 - 1))
               have hput : mput (tabF rem2 fun x => indeg es rem x - outOf (es.take i) best x) p.2 (indeg es rem p.2 - outOf (es.take i) best p.2 - 1) = tabF rem2 fun x => indeg es rem x - outOf (es.take (i + 1)) best x := by
                rw [tabF_put _ hmem]
                apply tabF_congr
                intro x _
                rw [htk, outOf_snoc]
                by_cases e : x = p.2
                ·simp [e, hpb]; omega
                ·simp [e]
               rw [ienc_put, hput] at hs6
               simp only [Sep.encI] at u6
               have hcc : -1000000 ≤ indeg es rem p.2 - outOf (es.take i) best p.2 ∧ indeg es rem p.2 - outOf (es.take i) best p.2 ≤ 1000000 := by omega
               generalize indeg es rem p.2 - outOf (es.take i) best p.2 = c at l1 u6 hput hcc
               have hwc : IntKind.i64.wrap (c - 1) = c - 1 := IntWalk.i64_in _ (by omega)
               have hbe : (p.1 == best) = true := by simpa using hpb
               have H9 := hid hs6.swap.tail
               clear hsr hs3 hs6 hput hmem hp hle hol htl htk hpb
               go_wp2_with fail
               go_roundw
               case rel => exact ⟨i + 1, by omega, by go_num, H9.out⟩
               case measure => simp [intOf]; omega
              ·have hbe : (p.1 == best) = false := by simpa using hpb
               have hco2 : tabF rem2 (fun x => indeg es rem x - outOf (es.take i) best x) = tabF rem2 fun x => indeg es rem x - outOf (es.take (i + 1)) best x := by
                apply tabF_congr
                intro x _
                rw [htk, outOf_snoc]
                simp [hpb]
               rw [hco2] at hs3
               have H9 := hid hs3.tail
               clear hsr hs3 hp hpb hco2 htk
               go_wp2_with fail
               go_roundw
               case rel => exact ⟨i + 1, by omega, by go_num, H9.out⟩
               case measure => simp [intOf]; omega
             ·--P4
              obtain rfl : i = es.length := by omega
              have hfin : tabF rem2 (fun x => indeg es rem x - outOf (es.take es.length) best x) = tabF rem2 (indeg es rem2) := by
               apply tabF_congr
               intro x _
               rw [List.take_length]; exact HIS.out x
              rw [hfin] at hsr
              have hs5 := hsr.swap.alloc #[.int .i64 best] 3
              have hn5 := news_blk hs5
              have H9 := hid hs5.tail; have HN := hid hn5
              obtain ⟨i0, hi0, hz0, hz1, hz2⟩ := info_parts Tryz.info3
              have hil := icells_length out
              have HL := hid hil
              clear hsr hs5 hn5 hfin hil
              go_wp2_with (at_builtin; refine wpList_append rfl (.tmp 93) (.tmp 95) 30 rfl 3 i0 _ 1 8 Tryz.underlying30 hi0 hz0 hz1 hz2 rfl (by decide) H9.out rfl (some ⟨wx.heap.size, 0, none⟩) 1 1 [.int .i64 best] rfl rfl HN.out (by simp [Value.oneCell']) (by unfold maxLen; omega) (by omega) ?_; intro v1 w5 hs6; have H6 := hid hs6; clear hs6)
              go_roundg (gm - 1)
              case measure => omega
              case rel => exact ⟨rem2, out ++ [best], HST, by omega, by rw [List.length_append, List.length_singleton]; omega, by rw [List.length_append, icells_append]; exact H6.out⟩
end Go.Proofs.YtcbokjocahnlcaaGreatDoor
