/- interleaflaw.LockPlays: the walk. -/
import Derived.Test.YtbcoddibdipjkaaDoorRefC
import Derived.Test.YtbcoddibdipjkaaDoorRefD
import Derived.Test.YtbcoddibdipjkaaDoorSame
import Derived.Test.YtbcoddibdipjkaaDoorLockA
import Derived.Test.YtbcoddibdipjkaaDoorLockG
namespace Go.Sep
open Go Go.RowKit
theorem SameT.hold_le {t : Tbl} {Qs : List (List Int)} (h : SameT t Qs) (hn : (t.hold.map (·.1)).Nodup) : t.hold.length ≤ 10 := by
  have := few (S := [0, 1, 2, 3, 4, 5, 6, 7, 8, 9]) hn (fun k hk => by
    obtain ⟨p, hp, rfl⟩ := List.mem_map.1 hk
    have h1 := mget_mem hn (show (p.1, p.2) ∈ t.hold from hp)
    rw [h.tab.hold] at h1
    have h2 := qf_in (List.mem_of_mem_head? h1)
    rw [h.len] at h2
    simp; omega)
  simpa using this
theorem qf_le {Qs : List (List Int)} {N : Nat} (h : ∀ q ∈ Qs, q.length ≤ N) (k : Int) : (qf Qs k).length ≤ N := by
  unfold qf
  split
  · cases hq : Qs[k.toNat]? with
    | none => simp
    | some q => exact h q (List.mem_of_getElem? hq)
  · simp
theorem rask_le {Qs : List (List Int)} {N : Nat} {tx key : Int} {c : Bool} (h : ∀ q ∈ Qs, q.length ≤ N) : ∀ q ∈ (raskT Qs tx key c).1, q.length ≤ N + 1 := by
  have h0 : ∀ q ∈ Qs, q.length ≤ N + 1 := fun q hq => by have := h q hq; omega
  unfold raskT
  split
  · exact h0
  · split
    · exact h0
    · split
      · exact h0
      · split
        · exact h0
        · intro q hq
          rcases List.mem_or_eq_of_mem_set hq with hq | rfl
          · exact h0 q hq
          · have := qf_le h key
            rw [List.length_append, List.length_singleton]; omega
theorem rdrop_le {Qs : List (List Int)} {N : Nat} {tx : Int} (h : ∀ q ∈ Qs, q.length ≤ N) : ∀ q ∈ Qs.map (fun l => strike l tx), q.length ≤ N := by
  intro q hq
  obtain ⟨l, hl, rfl⟩ := List.mem_map.1 hq
  have := h l hl; have := strike_le l tx; omega
end Go.Sep
namespace Go.Proofs.YtbcoddibdipjkaaDoor
open Go Go.RowKit Go.Sep

/-- What an Errno comes to as an error. -/
def errE (er : Int) : Err := if er = 0 then .nil else .no er
theorem errE_S {w0 w : World} {L : List HProp} (er : Int) (h : S w0 w L) : S w0 w (errP 44 106 105 (errV er) (errE er) :: L) := by
  unfold errE errV
  by_cases e : er = 0
  · rw [if_pos e, if_pos e]; exact S.pur_intro rfl h
  · rw [if_neg e, if_neg e]; exact S.pur_intro rfl h
theorem errE_is (er : Int) : isE (errE er) er (-1) = true := by
  unfold isE errE
  by_cases e : er = 0
  · rw [if_pos e, e]; rfl
  · rw [if_neg e]; simp [Err.errno, Err.place]

set_option maxRecDepth 40000 in
set_option maxHeartbeats 8000000 in
theorem tplays_any (w0 : World) (v : Value) (ls : List (Int × Int × Int)) (hE : ErrT w0) (hv : ArgF cells3 3 w0 v ls) :
    Calls Tryd.prog 7 #[v] w0 fun e w' => e = .returned (.bool true) ∧ Below w0.heap.size w0 w' := by
  obtain ⟨a, cap, rfl, hcap, hcap2, hrow⟩ := hv
  unfold maxLen at hcap2
  have hs0 := S.start w0
  by_cases h120 : 120 < ls.length
  · clear hrow hs0
    go_enter Tryd.func7, Tryd.ntmps7
    go_wp2_with fail
    go_ret
    exact ⟨rfl, Below.refl _ _⟩
  have h120' : ls.length ≤ 120 := by omega
  have hs1 := (S.blk_cells (hs0.alloc #[.map none, .map none, .map none] 51)).tab_zero (T := 3)
  have hs2 := S.rtab_new (T' := 3) (hs1.alloc #[.slice none 0 0, .slice none 0 0, .slice none 0 0, .slice none 0 0, .slice none 0 0, .slice none 0 0, .slice none 0 0, .slice none 0 0, .slice none 0 0, .slice none 0 0] 92)
  rw [World.size_alloc] at hs2
  have HR := hid hrow; have H2 := hid hs2.swap
  clear hrow h120 hs0 hs1 hs2
  go_enter Tryd.func7, Tryd.ntmps7
  go_wp2_with fail
  go_loopw [5] (fun c wr => ∃ i : Nat, i ≤ ls.length ∧ c = .int .i64 i ∧ ∃ (t : Tbl) (Qs : List (List Int)), Hid (SameT t Qs) ∧ Hid (∀ q ∈ Qs, q.length ≤ i) ∧ S w0 wr (tabP 3 w0.heap.size 0 t :: rtabP 3 (w0.heap.size + 1) 0 Qs :: [])) (fun c _ => ls.length - (intOf c).toNat)
  case atStart => exact ⟨0, Nat.zero_le _, rfl, _, _, hid SameT.start, hid (by simp), H2.out⟩
  case round =>
    rename World => wr
    obtain ⟨i, hi, rfl, t, Qs, hst, hbd, hsr⟩ := hrel
    clear H2
    by_cases hlt : i < ls.length
    · have hp : ls[i]? = some ls[i] := by simp [hlt]
      generalize ls[i] = p at hp
      obtain ⟨bb, oo, rfl, hbb, hcc⟩ := HR.out i p hp
      have c0 := (hsr.1.cell (p := ⟨bb, oo + i * 3 + 0, none⟩) hbb).trans (hcc 0 _ rfl)
      have c1 := (hsr.1.cell (p := ⟨bb, oo + i * 3 + 1, none⟩) hbb).trans (hcc 1 _ rfl)
      have c2 := (hsr.1.cell (p := ⟨bb, oo + i * 3 + 2, none⟩) hbb).trans (hcc 2 _ rfl)
      rw [Nat.add_zero] at c0
      obtain ⟨what, tx, key⟩ := p
      simp only at c0 c1 c2
      have hsx := hsr.alloc #[.int .i64 what, .int .i64 tx, .int .i64 key] 93
      have x1 := hsx.blk_cell 1 rfl
      have x2 := hsx.blk_cell 2 rfl
      have HS := hid hsx
      clear hcc hsr hp hsx
      go_upto_block 2 with fail
      go_cut [] (fun wx => ∃ (t : Tbl) (Qs : List (List Int)), Hid (SameT t Qs) ∧ Hid (∀ q ∈ Qs, q.length ≤ i + 1) ∧ S w0 wx (blk wr.heap.size 93 [.int .i64 what, .int .i64 tx, .int .i64 key] :: tabP 3 w0.heap.size 0 t :: rtabP 3 (w0.heap.size + 1) 0 Qs :: []))
      case first =>
        by_cases h0 : what = 0
        · subst h0
          obtain ⟨r, hrk⟩ := hst.out.rk
          have hrank := Rk.ranked hst.out.tab hrk
          obtain ⟨cc, hc⟩ : ∃ cc, ∀ a, mget t.hold key = some a → ∃ n, chase t tx n a = some cc := by
            cases hh : mget t.hold key with
            | none => exact ⟨false, by simp⟩
            | some a =>
              obtain ⟨c, hc⟩ := chase_ends hrank tx (r a + 1) a (by omega)
              exact ⟨c, fun a' e => by cases e; exact ⟨_, hc⟩⟩
          have hA := hst.out.ask (tx := tx) (key := key) (c := cc) hc
          have hcall := rask_any w0 _ (w0.heap.size + 1) t Qs tx key cc _ (HS.out.conv (M := rtabP 3 (w0.heap.size + 1) 0 Qs :: blk wr.heap.size 93 [.int .i64 0, .int .i64 tx, .int .i64 key] :: tabP 3 w0.heap.size 0 t :: []) (by simp only [all]; ac_rfl)) hst.out (fun q hq => by have := hbd.out q hq; omega) hc
          have hle := rask_le (tx := tx) (key := key) (c := cc) hbd.out
          have hlb : (lineAt t key).length ≤ 1000000 := by
            unfold lineAt
            rw [hst.out.line, List.length_tail]
            have := qf_le hbd.out key; omega
          have HA := hid hA; have HC := hid hcall; have HRK := hid hrank; have HCH := hid hc; have HLE := hid hle; have HLB := hid hlb
          clear hA hcall hrank hc hrk hle hlb
          go_wp2_with fail
          with_reducible refine HC.out.mono ?_
          rintro e w2 ⟨rfl, hs2⟩
          have hA := HA.out
          have hle := HLE.out
          generalize hre : raskT Qs tx key cc = r3 at hs2 hA hle ⊢
          obtain ⟨Qs', ok, er⟩ := r3
          simp only at hs2 hA hle
          have y1 := hs2.swap.blk_cell 1 rfl
          have y2 := hs2.swap.blk_cell 2 rfl
          have hcall := task_any w0 w2 w0.heap.size 0 t tx key r cc _ (hs2.conv (M := tabP 3 w0.heap.size 0 t :: rtabP 3 (w0.heap.size + 1) 0 Qs' :: blk wr.heap.size 93 [.int .i64 0, .int .i64 tx, .int .i64 key] :: []) (by simp only [all]; ac_rfl)) HRK.out HCH.out HLB.out
          have HA2 := hid hA; have HC2 := hid hcall; have HLE2 := hid hle
          clear HA HC HLE hA hle hs2 hcall hre
          go_wp2_with fail
          with_reducible refine HC2.out.mono ?_
          intro e w3 h
          unfold AskPost at h
          have hA := HA2.out
          generalize tbAsk t tx key cc = r3 at h hA
          obtain ⟨t', okb, er'⟩ := r3
          obtain ⟨rfl, hs3⟩ := h
          obtain ⟨hst', he⟩ := hA
          simp only [Prod.mk.injEq] at hs3 hst' he
          obtain ⟨rfl, rfl⟩ := he
          have hcall := bare_any (errE er') (errV er') er' w0 w3 _ hE (errE_S er' hs3)
          rw [errE_is] at hcall
          have HC3 := hid hcall; have HST' := hid hst'
          clear HA2 HC2 hs3 hst' hcall
          go_wp2_with (go_at_call 34; with_reducible refine HC3.out.mono ?_; rintro e w4 ⟨rfl, hs4⟩; have H4 := hid hs4.tail; clear hs4)
          go_meet
          exact ⟨t', Qs', HST', HLE2, H4.out.conv (by simp only [all]; ac_rfl)⟩
        · have hb0 : (what == 0) = false := by simpa using h0
          by_cases h1 : what = 1
          · subst h1
            by_cases htx : 1 ≤ tx
            · have hnod := (HS.out.tail).tab_nodup
              have hD := hst.out.drop hnod tx
              have hll : ∀ k, (lineAt t k).length ≤ 1000000 := fun k => by
                unfold lineAt
                rw [hst.out.line, List.length_tail]
                have := qf_le hbd.out k; omega
              have hhl : t.hold.length ≤ 1000000 := by have := hst.out.hold_le hnod; omega
              have hcall := tdrop_any w0 _ w0.heap.size 0 t tx _ (HS.out.drew.swap) hll hhl
              have HC1 := hid hcall
              have HD := hid hD
              have hq9 : ∀ q ∈ Qs, q.length ≤ 900000 := fun q hq => by have := hbd.out q hq; omega
              have HQ9 := hid hq9
              have hol : (tbDrop t tx).2.length ≤ 1000000 := by
                rw [hD.2]; have := rout_le Qs tx 10; omega
              have hle := rdrop_le (tx := tx) (fun q hq => Nat.le_succ_of_le (hbd.out q hq))
              have HLE := hid hle
              have hdt : decide ((tbDrop t tx).2 = rout Qs tx 10) = true := decide_eq_true hD.2
              have HDT := hid hdt
              have q0 := HS.out.drew.blk_cell 1 rfl
              clear hcall hD hll hhl hnod hq9 hol hle hdt h0
              go_wp2_with fail
              go_region_held_law (fun w' => w'.cell? ⟨wr.heap.size, 1, none⟩ = some (.int .i64 tx)) (first | (with_reducible assumption) | (with_reducible exact q0) | (with_reducible exact q1))
                (first
                  | (go_at_call 20; with_reducible refine HC1.out.mono ?_; rintro e w2 ⟨v2, rfl, hs2⟩; have q1 := (hs2.conv (M := blk wr.heap.size 93 [.int .i64 1, .int .i64 tx, .int .i64 key] :: sl 31 2 v2 (tbDrop t tx).2.length (pcells (tbDrop t tx).2) :: tabP 3 w0.heap.size 0 (tbDrop t tx).1 :: rtabP 3 (w0.heap.size + 1) 0 Qs :: []) (by simp only [all]; ac_rfl)).blk_cell 1 rfl; have G2 := hid hs2; clear hs2)
                  | (go_at_call 41; with_reducible refine (rdrop_any w0 _ (w0.heap.size + 1) Qs tx _ (G2.out.conv (M := rtabP 3 (w0.heap.size + 1) 0 Qs :: sl 31 2 v2 (tbDrop t tx).2.length (pcells (tbDrop t tx).2) :: tabP 3 w0.heap.size 0 (tbDrop t tx).1 :: blk wr.heap.size 93 [.int .i64 1, .int .i64 tx, .int .i64 key] :: []) (by simp only [all]; ac_rfl)) HQ9.out).mono ?_; rintro e w3 ⟨v3, rfl, hs3⟩; have q1 := (hs3.conv (M := blk wr.heap.size 93 [.int .i64 1, .int .i64 tx, .int .i64 key] :: sl 31 2 v2 (tbDrop t tx).2.length (pcells (tbDrop t tx).2) :: sl 31 2 v3 (rout Qs tx 10).length (pcells (rout Qs tx 10)) :: rtabP 3 (w0.heap.size + 1) 0 (Qs.map fun l => strike l tx) :: tabP 3 w0.heap.size 0 (tbDrop t tx).1 :: []) (by simp only [all]; ac_rfl)).blk_cell 1 rfl; have G3 := hid hs3; clear hs3)
                  | (go_at_call 37; with_reducible refine (sameWrites_any w0 _ v2 v3 (tbDrop t tx).2 (rout Qs tx 10) _ G3.out (RdK.own.mono fun w h => h.conv (M := sl 31 2 v2 (tbDrop t tx).2.length (pcells (tbDrop t tx).2) :: sl 31 2 v3 (rout Qs tx 10).length (pcells (rout Qs tx 10)) :: rtabP 3 (w0.heap.size + 1) 0 (Qs.map fun l => strike l tx) :: tabP 3 w0.heap.size 0 (tbDrop t tx).1 :: blk wr.heap.size 93 [.int .i64 1, .int .i64 tx, .int .i64 key] :: []) (by simp only [all]; ac_rfl)) RdK.own).mono ?_; rw [HDT.out]; rintro e w4 ⟨rfl, hs4⟩; have q1 := (hs4.conv (M := blk wr.heap.size 93 [.int .i64 1, .int .i64 tx, .int .i64 key] :: sl 31 2 v2 (tbDrop t tx).2.length (pcells (tbDrop t tx).2) :: sl 31 2 v3 (rout Qs tx 10).length (pcells (rout Qs tx 10)) :: rtabP 3 (w0.heap.size + 1) 0 (Qs.map fun l => strike l tx) :: tabP 3 w0.heap.size 0 (tbDrop t tx).1 :: []) (by simp only [all]; ac_rfl)).blk_cell 1 rfl; have G4 := hid hs4; clear hs4))
              all_goals
                go_wp2_with fail
                go_meet
                exact ⟨_, _, hid HD.out.1, HLE, (G4.out.conv (M := sl 31 2 v2 (tbDrop t tx).2.length (pcells (tbDrop t tx).2) :: sl 31 2 v3 (rout Qs tx 10).length (pcells (rout Qs tx 10)) :: blk wr.heap.size 93 [.int .i64 1, .int .i64 tx, .int .i64 key] :: tabP 3 w0.heap.size 0 (tbDrop t tx).1 :: rtabP 3 (w0.heap.size + 1) 0 (Qs.map fun l => strike l tx) :: []) (by simp only [all]; ac_rfl)).tail.tail⟩
            · have htb : tx < 1 := by omega
              have htd : decide (1 ≤ tx) = false := decide_eq_false htx
              have hbd' : Hid (∀ q ∈ Qs, q.length ≤ i + 1) := hid fun q hq => Nat.le_succ_of_le (hbd.out q hq)
              have HS1 := hid HS.out.drew
              clear htx h0
              go_wp2_with fail
              go_region
              all_goals
                go_wp2_with fail
                go_meet
                exact ⟨t, Qs, hst, hbd', HS1.out⟩
          · have hb1 : (what == 1) = false := by simpa using h1
            have hbd' : Hid (∀ q ∈ Qs, q.length ≤ i + 1) := hid fun q hq => Nat.le_succ_of_le (hbd.out q hq)
            clear h0 h1
            go_wp2_with fail
            go_meet
            exact ⟨t, Qs, hst, hbd', HS.out⟩
      case rest =>
      rename World => wx
      obtain ⟨t, Qs, hst, hbd, hsr⟩ := hcut
      obtain ⟨kv, hk⟩ := (hsr.conv (M := rtabP 3 (w0.heap.size + 1) 0 Qs :: tabP 3 w0.heap.size 0 t :: blk wr.heap.size 93 [.int .i64 what, .int .i64 tx, .int .i64 key] :: []) (by simp only [all]; ac_rfl)).ex_elim
      have G1 : Hid (S w0 wx.drew (tabP 3 w0.heap.size 0 t :: rtabK 3 (w0.heap.size + 1) 0 kv Qs :: blk wr.heap.size 93 [.int .i64 what, .int .i64 tx, .int .i64 key] :: [])) := hid hk.drew.swap
      have G2 : Hid (S w0 wx.drew (rtabK 3 (w0.heap.size + 1) 0 kv Qs :: tabP 3 w0.heap.size 0 t :: blk wr.heap.size 93 [.int .i64 what, .int .i64 tx, .int .i64 key] :: [])) := hid hk.drew
      have hcl : ∀ W M, S w0 W (blk wr.heap.size 93 [.int .i64 what, .int .i64 tx, .int .i64 key] :: M) → W.cell? ⟨wr.heap.size, 1, none⟩ = some (.int .i64 tx) ∧ W.cell? ⟨wr.heap.size, 2, none⟩ = some (.int .i64 key) := fun W M h => ⟨h.blk_cell 1 rfl, h.blk_cell 2 rfl⟩
      have q0 := hcl _ _ hk.drew.rot3
      have HCL := hid hcl
      have hb6 : ∀ q ∈ Qs, q.length ≤ 1000000 := fun q hq => by have := hbd.out q hq; omega
      have HB6 := hid hb6
      have hlk : ((mget t.line key).getD []).length ≤ 4000000 := by
        rw [hst.out.line, List.length_tail]; have := qf_le hbd.out key; omega
      have hl6 : (qf Qs key).tail.length ≤ 1000000 := by
        rw [List.length_tail]; have := qf_le hbd.out key; omega
      have HLK := hid hlk; have HL6 := hid hl6
      clear HS c0 c1 c2 x1 x2 hsr hk hcl hb6 hlk hl6
      go_wp2_with fail
      go_region_held_law (fun w' => w'.cell? ⟨wr.heap.size, 1, none⟩ = some (.int .i64 tx) ∧ w'.cell? ⟨wr.heap.size, 2, none⟩ = some (.int .i64 key)) (first | (with_reducible assumption) | (with_reducible exact q0) | (with_reducible exact q1))
        (first
          | (go_at_call 21; with_reducible refine (twaits_any w0 _ 3 w0.heap.size 0 t tx _ G1.out).mono ?_; rw [hst.out.waits]; rintro e w2 ⟨rfl, rfl⟩)
          | (go_at_call 42; with_reducible refine (rwaits_any w0 _ (w0.heap.size + 1) kv Qs tx _ G2.out HB6.out).mono ?_; rintro e w2 ⟨rfl, rfl⟩)
          | (go_at_call 19; with_reducible refine (tholds_any w0 _ 3 w0.heap.size 0 t key _ G1.out).mono ?_; rw [hst.out.holds]; rintro e w2 ⟨rfl, rfl⟩)
          | (go_at_call 43; with_reducible refine (rholds_any w0 _ (w0.heap.size + 1) kv Qs key _ G2.out).mono ?_; rintro e w2 ⟨rfl, rfl⟩)
          | (go_at_call 22; with_reducible refine (tline_any w0 _ w0.heap.size 0 t key _ G1.out HLK.out).mono ?_; rw [hst.out.line]; rintro e w2 ⟨v1, rfl, hs2⟩; have G3 : Hid (S w0 w2 (rtabK 3 (w0.heap.size + 1) 0 kv Qs :: sl 3 1 v1 (qf Qs key).tail.length (icells (qf Qs key).tail) :: tabP 3 w0.heap.size 0 t :: blk wr.heap.size 93 [.int .i64 what, .int .i64 tx, .int .i64 key] :: [])) := hid (hs2.conv (by simp only [all]; ac_rfl)); have q1 := HCL.out _ _ (hs2.conv (M := blk wr.heap.size 93 [.int .i64 what, .int .i64 tx, .int .i64 key] :: sl 3 1 v1 (qf Qs key).tail.length (icells (qf Qs key).tail) :: tabP 3 w0.heap.size 0 t :: rtabK 3 (w0.heap.size + 1) 0 kv Qs :: []) (by simp only [all]; ac_rfl)); clear hs2)
          | (go_at_call 44; with_reducible refine (rline_any w0 _ (w0.heap.size + 1) kv Qs key _ G3.out).mono ?_; rintro e w2 ⟨v2, rfl, rfl, hrd⟩; have HRD := hid hrd; clear hrd)
          | (go_at_call 35; with_reducible refine (same_any w0 _ v1 v2 (qf Qs key).tail (qf Qs key).tail _ G3.out (RdK.own.mono fun w h => h.swap) HRD.out HL6.out).mono ?_; rw [show decide ((qf Qs key).tail = (qf Qs key).tail) = true from decide_eq_true rfl]; rintro e w3 ⟨rfl, hs3⟩; have q1 := HCL.out _ _ (hs3.conv (M := blk wr.heap.size 93 [.int .i64 what, .int .i64 tx, .int .i64 key] :: sl 3 1 v1 (qf Qs key).tail.length (icells (qf Qs key).tail) :: tabP 3 w0.heap.size 0 t :: rtabK 3 (w0.heap.size + 1) 0 kv Qs :: []) (by simp only [all]; ac_rfl)); have G4 := hid hs3; clear hs3))
      all_goals
        go_wp2_with fail
        go_roundw
        case rel => exact ⟨i + 1, by omega, by go_num, t, Qs, hst, hbd, S.swap (.ex_intro kv (G4.out.conv (M := blk wr.heap.size 93 [.int .i64 what, .int .i64 tx, .int .i64 key] :: sl 3 1 v1 (qf Qs key).tail.length (icells (qf Qs key).tail) :: rtabK 3 (w0.heap.size + 1) 0 kv Qs :: tabP 3 w0.heap.size 0 t :: []) (by simp only [all]; ac_rfl)).tail.tail)⟩
        case measure => simp [intOf]; omega
    · obtain rfl : i = ls.length := by omega
      have H3 := hid hsr
      clear hsr
      go_wp2_with fail
      go_ret
      exact ⟨rfl, H3.out.1⟩
end Go.Proofs.YtbcoddibdipjkaaDoor
