/- interleafkeep.StoreSwept: the walk. -/
import Derived.Test.YtbcoddibdipjkaaDoorKeepStore
import Derived.Test.YtbcoddibdipjkaaDoorSweptLaw
import Derived.Test.YtbcoddibdipjkaaDoorWords3
namespace Go.Proofs.YtbcoddibdipjkaaDoor
open Go Go.RowKit Go.Sep

theorem Tryd.info31 : (Tryd.prog.info? 31).map (fun i => (i.zero, i.size, i.bytes)) = some (some (.agg #[.int .i64 0, .int .i64 0]), 2, 16) := by kernel_rfl
def ArgPairs (w0 : World) (vi : Value) (l : Vers) : Prop := ∃ ai ci, vi = .slice ai l.length ci ∧ l.length ≤ ci ∧ ci ≤ maxLen ∧ ∀ (j : Nat) (p : Int × Int), l[j]? = some p → ∃ bb oo, ai = some ⟨bb, oo, none⟩ ∧ bb < w0.heap.size ∧ w0.cell? ⟨bb, oo + j * 2, none⟩ = some (.int .i64 p.1) ∧ w0.cell? ⟨bb, oo + j * 2 + 1, none⟩ = some (.int .i64 p.2)
def ArgRows (w0 : World) (v : Value) (ls : List Vers) : Prop :=
  ∃ a cap, v = .slice a ls.length cap ∧ ls.length ≤ cap ∧ cap ≤ maxLen ∧ ∀ (i : Nat) (l : Vers), ls[i]? = some l → ∃ b o vi, a = some ⟨b, o, none⟩ ∧ b < w0.heap.size ∧ w0.cell? ⟨b, o + i, none⟩ = some vi ∧ ArgPairs w0 vi l

theorem badAt_snoc : ∀ {l : Vers} {i : Nat} {a b : Nat}, badAt i l = none → a < 10 → b < 100 → badAt i (l ++ [((a : Int), (b : Int))]) = none
  | [], i, a, b, _, ha, hb => by
    have h1 : keyOk (a : Int) := ⟨by omega, by omega⟩
    have h2 : valOk (b : Int) := ⟨by omega, by omega⟩
    simp [badAt, h1, h2]
  | p :: l, i, a, b, h, ha, hb => by
    unfold badAt at h
    simp only [List.cons_append, badAt]
    split
    · rename_i h1; rw [if_pos h1] at h; simp at h
    · rename_i h1
      rw [if_neg h1] at h
      split
      · rename_i h2; rw [if_pos h2] at h; simp at h
      · rename_i h2; rw [if_neg h2] at h; exact badAt_snoc h ha hb

set_option maxRecDepth 20000 in
set_option maxHeartbeats 8000000 in
theorem swept_any (w0 : World) (v : Value) (ls : List Vers) (at0 when0 later0 : Int) (hE : ErrT w0) (hv : ArgRows w0 v ls) :
    Calls Tryd.prog 3 #[v, .int .i64 at0, .int .i64 when0, .int .i64 later0] w0 fun e w' => e = .returned (.bool true) ∧ Below w0.heap.size w0 w' := by
  obtain ⟨a, cap, rfl, hcap, hcap2, hrow⟩ := hv
  unfold maxLen at hcap2
  have hs0 := S.start w0
  by_cases h40 : 40 < ls.length
  · go_enter Tryd.func3, Tryd.ntmps3
    go_wp2_with fail
    go_ret
    exact ⟨rfl, Below.refl _ _⟩
  have h40' : ls.length ≤ 40 := by omega
  have HR := hid hrow
  clear hrow h40
  go_enter Tryd.func3, Tryd.ntmps3
  go_wp2_with fail
  with_reducible refine (stored_any w0 _ [] hs0).mono ?_
  rintro e w1 ⟨rfl, hs1⟩
  have hsA := S.store_new (T' := 38) (hs1.alloc #[.slice none 0 0, .slice none 0 0, .slice none 0 0, .slice none 0 0, .slice none 0 0, .slice none 0 0, .slice none 0 0, .slice none 0 0, .slice none 0 0, .slice none 0 0, .int .i64 0] 27)
  have hsB := S.store_new (T' := 38) (hsA.alloc #[.slice none 0 0, .slice none 0 0, .slice none 0 0, .slice none 0 0, .slice none 0 0, .slice none 0 0, .slice none 0 0, .slice none 0 0, .slice none 0 0, .slice none 0 0, .int .i64 0] 27)
  rw [World.size_alloc] at hsB
  have H1 := hid hsB
  clear hs0 hs1 hsA hsB
  go_wp2_with fail
  with_reducible refine (pick_any at0 _ _ (by omega) (by omega)).mono ?_
  rintro e w2 ⟨rfl, rfl⟩
  go_wp2_with fail
  with_reducible refine (pick_any when0 _ _ (by omega) (by omega)).mono ?_
  rintro e w2 ⟨rfl, rfl⟩
  go_wp2_with fail
  have hat := pickN_lt at0 (show 0 < ls.length + 1 by omega)
  generalize pickN at0 (ls.length + 1) = at_ at hat
  generalize pickN when0 (ls.length + 1) = when_
  go_loopw [11] (fun c wr => ∃ i : Nat, i ≤ ls.length ∧ c = .int .i64 i ∧ ∃ A B La, La ≤ (i : Int) ∧ RelV at_ La A B ∧ (∀ vs ∈ A, vs.length ≤ 10 * i) ∧ (∀ vs ∈ B, vs.length ≤ 10 * i) ∧ S w0 wr (storeP 38 (w1.heap.size + 1) 0 B La :: storeP 38 w1.heap.size 0 A La :: [])) (fun c _ => ls.length - (intOf c).toNat)
  case atStart => exact ⟨0, Nat.zero_le _, rfl, _, _, 0, by omega, RelV.start at_, by simp, by simp, H1.out⟩
  case round =>
    obtain ⟨i, hi, rfl, A, B, La, hLa, hrel', hNA, hNB, hsr⟩ := hrel
    clear H1
    by_cases hlt : i < ls.length
    · have hp : ls[i]? = some ls[i] := by simp [hlt]
      generalize ls[i] = l at hp
      obtain ⟨bl, ol, vi, rfl, hbl, cl, ai, ci, rfl, hci, hci2, hpr⟩ := HR.out i l hp
      unfold maxLen at hci2
      have cl' := (hsr.1.cell (p := ⟨bl, ol + i, none⟩) hbl).trans cl
      by_cases h10 : 10 < l.length
      · have HS := hid hsr; have HN := hid hNA; have HN2 := hid hNB; have HRL := hid hrel'
        clear hsr hNA hNB hrel' hpr hp cl
        go_wp2_with fail
        go_roundw
        case rel => exact ⟨i + 1, by omega, by go_num, A, B, La, by omega, HRL.out, fun vs hv => by have := HN.out vs hv; omega, fun vs hv => by have := HN2.out vs hv; omega, HS.out⟩
        case measure => simp [intOf]; omega
      · have h10' : l.length ≤ 10 := by omega
        have HP := hid hpr; have HS := hid hsr
        have HCL := hid cl
        clear hpr hsr hp h10 cl
        go_wp2_with fail
        go_loopw [12, 13] (fun u c wr => ∃ k : Nat, k ≤ l.length ∧ c = .int .i64 k ∧ ∃ ws : Vers, ws.length = k ∧ badAt 0 ws = none ∧ S w0 wr (sl 31 2 u k (pcells ws) :: storeP 38 (w1.heap.size + 1) 0 B La :: storeP 38 w1.heap.size 0 A La :: [])) (fun _ c _ => l.length - (intOf c).toNat)
        case atStart => exact ⟨0, Nat.zero_le _, rfl, [], rfl, rfl, HS.out.sl_nil⟩
        case round =>
          obtain ⟨k, hk, rfl, ws, hws, hbad, hsr⟩ := hrel
          have c0 := (hsr.1.cell (p := ⟨bl, ol + i, none⟩) hbl).trans HCL.out
          clear cl'
          by_cases hkl : k < l.length
          · have hpk : l[k]? = some l[k] := by simp [hkl]
            generalize l[k] = p at hpk
            obtain ⟨bb, oo, rfl, hbb, c1, c2⟩ := HP.out k p hpk
            have c1' := (hsr.1.cell (p := ⟨bb, oo + k * 2, none⟩) hbb).trans c1
            have c2' := (hsr.1.cell (p := ⟨bb, oo + k * 2 + 1, none⟩) hbb).trans c2
            obtain ⟨au, cu, rfl, _, _, _⟩ := hsr.sl_val
            have HW := hid hws; have HB := hid hbad; have HSR := hid hsr
            clear hpk c1 c2 hws hbad hsr
            obtain ⟨i0, hi0, hz0, hz1, hz2⟩ := info_parts Tryd.info31
            go_wp2_with fail
            go_region_law (first | (refine step_append rfl (.tmp 62) (.tmp 82) 29 rfl 31 i0 _ 2 16 Tryd.underlying29 hi0 hz0 hz1 hz2 rfl (by decide) (HSR.out.drew.alloc #[.int .i64 (pickN p.1 10), .int .i64 (pickN p.2 100)] 31).tail rfl _ 1 1 [.int .i64 (pickN p.1 10), .int .i64 (pickN p.2 100)] rfl rfl (news_blk (HSR.out.drew.alloc #[.int .i64 (pickN p.1 10), .int .i64 (pickN p.2 100)] 31)) (by simp [Value.oneCell']) (by unfold maxLen; omega) (by omega) ?_; intro v1 w2 hs1; have H9 := hid hs1; clear hs1) | (go_simp; go_at_call 10; refine (pick_any _ _ _ (by omega) (by omega)).mono ?_; rintro e w2 ⟨rfl, rfl⟩))
            all_goals
              go_wp2_with fail
              go_roundw
              case rel => exact ⟨k + 1, by omega, by go_num, ws ++ [(((pickN p.1 10 : Nat) : Int), ((pickN p.2 100 : Nat) : Int))], by simp [HW.out], badAt_snoc HB.out (pickN_lt _ (by omega)) (pickN_lt _ (by omega)), by rw [pcells_append]; exact H9.out⟩
              case measure => simp [intOf]; omega
          · have hkk : k = l.length := by omega
            subst hkk
            obtain ⟨au, cu, rfl, hcu, hcu2, _⟩ := hsr.sl_val
            unfold maxLen at hcu2
            have HW := hid hws; have HB := hid hbad
            clear hws hbad
            have hrk : ∀ X, RdK w0 (X :: sl 31 2 (.slice au l.length cu) l.length (pcells ws) :: []) (.slice au l.length cu) ws.length (pcells ws) := by
              intro X; rw [HW.out]; exact RdK.own.mono fun w h => h.tail
            have hrk1 : ∀ M, RdK w0 (sl 31 2 (.slice au l.length cu) l.length (pcells ws) :: M) (.slice au l.length cu) ws.length (pcells ws) := by
              intro M; rw [HW.out]; exact RdK.own
            have HRK := hid hrk; have HRK1 := hid hrk1
            clear hrk hrk1
            have hwl : ws.length ≤ 10 := by rw [HW.out]; exact h10'
            have HWL := hid hwl; clear hwl
            have hBody : ∀ (wr : World) (B : List Vers), RelV at_ La A B → (∀ vs ∈ B, vs.length ≤ 10 * i) → S w0 wr (sl 31 2 (.slice au l.length cu) l.length (pcells ws) :: storeP 38 (w1.heap.size + 1) 0 B La :: storeP 38 w1.heap.size 0 A La :: []) →
              Calls Tryd.prog 12 #[.pointer (some ⟨w1.heap.size, 0, none⟩), .int .i64 ((i : Int) + 1), .slice au l.length cu] wr fun e w3 => e = .returned .nilIface ∧
                Calls Tryd.prog 12 #[.pointer (some ⟨w1.heap.size + 1, 0, none⟩), .int .i64 ((i : Int) + 1), .slice au l.length cu] w3 fun e w4 => e = .returned .nilIface ∧
                  ∃ A B La, La ≤ ((i + 1 : Nat) : Int) ∧ RelV at_ La A B ∧ (∀ vs ∈ A, vs.length ≤ 10 * (i + 1)) ∧ (∀ vs ∈ B, vs.length ≤ 10 * (i + 1)) ∧ S w0 w4 (storeP 38 (w1.heap.size + 1) 0 B La :: storeP 38 w1.heap.size 0 A La :: []) := by
              intro wr B hrelB hNB hsr
              have hwl := HWL.out
              with_reducible refine (install_ok w0 wr w1.heap.size 0 A La ((i : Int) + 1) _ ws _ (10 * i) hsr.rot3 (HRK1.out _) hNA (by omega) (by omega) (by omega) HB.out).mono ?_
              rintro e w3 ⟨rfl, hs3⟩
              refine ⟨rfl, (install_ok w0 w3 (w1.heap.size + 1) 0 B La ((i : Int) + 1) _ ws _ (10 * i) hs3.rot3 (HRK.out _) hNB (by omega) (by omega) (by omega) HB.out).mono ?_⟩
              rintro e w4 ⟨rfl, hs4⟩
              refine ⟨rfl, putAll ((i : Int) + 1) A ws, putAll ((i : Int) + 1) B ws, (i : Int) + 1, by omega, hrelB.putAll ws (by omega), fun vs hv => ?_, fun vs hv => ?_, hs4.rot3.tail.swap.swap⟩
              · have := putAll_le ws hNA vs hv; omega
              · have := putAll_le ws hNB vs hv; omega
            have HBody := hid hBody
            clear hBody
            by_cases hiw : i = when_
            · have hiw' : (i == when_) = true := by simpa using hiw
              have hsb : ∀ m, m ≤ (at_ : Int) → Calls Tryd.prog 11 #[.pointer (some ⟨w1.heap.size + 1, 0, none⟩), .int .i64 m] wr fun e w3 => e = .returned (.int .i64 ((B.map (sweptN m)).sum : Nat)) ∧
                Calls Tryd.prog 12 #[.pointer (some ⟨w1.heap.size, 0, none⟩), .int .i64 ((i : Int) + 1), .slice au l.length cu] w3 fun e w3 => e = .returned .nilIface ∧
                Calls Tryd.prog 12 #[.pointer (some ⟨w1.heap.size + 1, 0, none⟩), .int .i64 ((i : Int) + 1), .slice au l.length cu] w3 fun e w4 => e = .returned .nilIface ∧
                  ∃ A B La, La ≤ ((i + 1 : Nat) : Int) ∧ RelV at_ La A B ∧ (∀ vs ∈ A, vs.length ≤ 10 * (i + 1)) ∧ (∀ vs ∈ B, vs.length ≤ 10 * (i + 1)) ∧ S w0 w4 (storeP 38 (w1.heap.size + 1) 0 B La :: storeP 38 w1.heap.size 0 A La :: []) := by
                intro m hm
                with_reducible refine (sweep_any w0 wr (w1.heap.size + 1) 0 B La m _ hsr.swap (fun vs hv => by have := hNB vs hv; omega)).mono ?_
                rintro e w3 ⟨rfl, hs3⟩
                refine ⟨rfl, HBody.out w3 _ (hrel'.sweep hm) (fun vs hv => ?_) hs3.swap⟩
                obtain ⟨vs', hv', rfl⟩ := List.mem_map.1 hv
                have := hNB vs' hv'
                unfold swept; rw [List.length_drop]; omega
              by_cases him : i < at_
              · have HC := hid (hsb i (by omega))
                clear hsr hiw hsb
                go_wp2_with fail
                with_reducible refine HC.out.mono ?_
                rintro e w2 ⟨rfl, hc⟩
                have HC2 := hid hc; clear hc
                go_wp2_with fail
                with_reducible refine HC2.out.mono ?_
                rintro e w3 ⟨rfl, hc⟩
                have HC3 := hid hc; clear hc
                go_wp2_with fail
                with_reducible refine HC3.out.mono ?_
                rintro e w4 ⟨rfl, hc⟩
                have HC4 := hid hc; clear hc
                go_wp2_with fail
                go_roundw
                case rel => exact ⟨i + 1, by omega, by go_num, HC4.out⟩
                case measure => simp [intOf]; omega
              · have HC := hid (hsb at_ (by omega))
                clear hsr hiw hsb
                go_wp2_with fail
                with_reducible refine HC.out.mono ?_
                rintro e w2 ⟨rfl, hc⟩
                have HC2 := hid hc; clear hc
                go_wp2_with fail
                with_reducible refine HC2.out.mono ?_
                rintro e w3 ⟨rfl, hc⟩
                have HC3 := hid hc; clear hc
                go_wp2_with fail
                with_reducible refine HC3.out.mono ?_
                rintro e w4 ⟨rfl, hc⟩
                have HC4 := hid hc; clear hc
                go_wp2_with fail
                go_roundw
                case rel => exact ⟨i + 1, by omega, by go_num, HC4.out⟩
                case measure => simp [intOf]; omega
            · have hiw' : (i == when_) = false := by simpa using hiw
              have HC := hid (HBody.out wr B hrel' hNB hsr)
              clear hsr hiw
              go_wp2_with fail
              with_reducible refine HC.out.mono ?_
              rintro e w3 ⟨rfl, hc⟩
              have HC3 := hid hc; clear hc
              go_wp2_with fail
              with_reducible refine HC3.out.mono ?_
              rintro e w4 ⟨rfl, hc⟩
              have HC4 := hid hc; clear hc
              go_wp2_with fail
              go_roundw
              case rel => exact ⟨i + 1, by omega, by go_num, HC4.out⟩
              case measure => simp [intOf]; omega
    · have hii : i = ls.length := by omega
      subst hii
      clear hlt
      have hNB' : ∀ vs ∈ B, vs.length ≤ 2000000 := fun vs hv => by have := hNB vs hv; omega
      have hNA' : ∀ vs ∈ A, vs.length ≤ 2000000 := fun vs hv => by have := hNA vs hv; omega
      have hNC' : ∀ vs ∈ B.map (swept at_), vs.length ≤ 2000000 := fun vs hv => by
        obtain ⟨vs', hv', rfl⟩ := List.mem_map.1 hv
        have := hNB' vs' hv'
        unfold swept; rw [List.length_drop]; omega
      have hmb := manyV_le hNB'
      have hms := many_swept at_ B
      have hst := swept_twice at_ B
      have hlB : B.length = 10 := hsr.store_len
      have hrelC := hrel'.sweep (Int.le_refl at_)
      rw [hlB] at hmb
      have HNA := hid hNA'; have HNC := hid hNC'; have HNB := hid hNB'; have HRC := hid hrelC; have HST := hid hst; have HSR := hid hsr
      clear hNA hNB hNA' hNB' hNC' hrelC hst hsr hrel'
      go_wp2_with fail
      with_reducible refine (many_any w0 wr (w1.heap.size + 1) 0 B La _ HSR.out HNB.out).mono ?_
      rintro e w3 ⟨rfl, rfl⟩
      go_wp2_with fail
      with_reducible refine (sweep_any w0 wr (w1.heap.size + 1) 0 B La at_ _ HSR.out HNB.out).mono ?_
      rintro e w3 ⟨rfl, hs3⟩
      have HS3 := hid hs3
      clear hs3
      go_wp2_with fail
      with_reducible refine (many_any w0 w3 (w1.heap.size + 1) 0 _ La _ HS3.out HNC.out).mono ?_
      rintro e w4 ⟨rfl, rfl⟩
      generalize manyV (B.map (swept at_)) = m1 at hms
      generalize (B.map (sweptN at_)).sum = m2 at hms
      generalize manyV B = m3 at hmb hms
      have hms1 : m1 + m2 ≤ m3 := by omega
      have hms2 : m3 ≤ m1 + m2 := by omega
      have hm2 : m2 ≤ 20000000 := by omega
      clear hms
      go_wp2_with fail
      with_reducible refine (sweep_any w0 w3 (w1.heap.size + 1) 0 _ La at_ _ HS3.out HNC.out).mono ?_
      rintro e w4 ⟨rfl, hs4⟩
      have HS4 := hid (hs4.swap)
      clear hs4 HS3
      rw [HST.out]
      have hlat := pickN_lt later0 (show 0 < ls.length + 2 by omega)
      go_wp2_with fail
      with_reducible refine (pick_any later0 _ _ (by omega) (by omega)).mono ?_
      rintro e w5 ⟨rfl, rfl⟩
      go_wp2_with fail
      generalize pickN later0 (ls.length + 2) = see at hlat
      have hrelD := HRC.out.sweep (Int.le_refl at_)
      have hlA : A.length = 10 := HS4.out.store_len
      have hND : ∀ vs ∈ (B.map (swept at_)).map (swept at_), vs.length ≤ 2000000 := fun vs hv => by
        obtain ⟨vs', hv', rfl⟩ := List.mem_map.1 hv
        have := HNC.out vs' hv'
        unfold swept; rw [List.length_drop]; omega
      have HND := hid hND
      clear hND HNC HNB HRC HST
      generalize (B.map (swept at_)).map (swept at_) = B2 at hrelD HS4 HND
      have HRD := hid hrelD; have HLA := hid hlA
      clear hrelD hlA
      go_loopw [17] (fun c wr => ∃ k : Nat, k ≤ 10 ∧ c = .int .i64 k ∧ S w0 wr (storeP 38 w1.heap.size 0 A La :: storeP 38 (w1.heap.size + 1) 0 B2 La :: [])) (fun c _ => 10 - (intOf c).toNat)
      case atStart => exact ⟨0, by omega, rfl, HS4.out⟩
      case round =>
        obtain ⟨k, hk, rfl, hsr⟩ := hrel
        by_cases hk10 : k < 10
        · obtain ⟨va, hva⟩ : ∃ va, A[k]? = some va := ⟨A[k]'(by have := HLA.out; omega), by simp⟩
          obtain ⟨vb, hvb⟩ : ∃ vb, B2[k]? = some vb := ⟨B2[k]'(by have := HLA.out; have := HRD.out.1; omega), by simp⟩
          have hr := (HRD.out.2 k va vb hva hvb).1
          have hread := hr.read (see := (at_ : Int) + see) (by omega)
          have hnew := hr.newer (see := (at_ : Int) + see) (by omega)
          have hvl := HNA.out va (List.mem_of_getElem? hva)
          have hvl2 := HND.out vb (List.mem_of_getElem? hvb)
          have HR1 := hid hread; have HN1 := hid hnew
          have HVA := hid hva; have HVB := hid hvb
          have hnl : (newerL va ((at_ : Int) + see)).length ≤ 2000000 := by have := newerL_le va ((at_ : Int) + see); omega
          have HNL := hid hnl
          clear hva hvb hr hread hnew HS4 hnl
          cases hrv : readV va ((at_ : Int) + see) with
          | none =>
            have H1 := hid (read_any w1.heap.size 0 A La ((at_ : Int) + see) k va w0 wr _ hk10 hsr HVA.out hvl)
            clear hsr
            go_wp2_with fail
            with_reducible refine H1.out.mono ?_
            rintro e w5 ⟨rfl, hs5⟩
            rw [hrv]
            rw [HR1.out] at hrv
            have HV := hid hrv
            clear hrv H1
            simp only [readAns]
            have H5 := hid (hs5.alloc #[.int .i64 0, .int .i64 0] 38).rot3
            clear hs5
            go_wp2_with fail
            with_reducible refine (read_any (w1.heap.size + 1) 0 B2 La ((at_ : Int) + see) k vb w0 _ _ hk10 H5.out HVB.out hvl2).mono ?_
            rintro e w6 ⟨rfl, hs6⟩
            rw [HV.out]
            simp only [readAns]
            have H6 := hid (hs6.alloc #[.int .i64 0, .int .i64 0] 38).rot4
            clear hs6 H5
            go_wp2_with fail
            with_reducible refine (newer_any w0 _ w1.heap.size 0 A La ((at_ : Int) + see) k va _ hk10 H6.out HVA.out hvl).mono ?_
            rintro e w7 ⟨v7, rfl, hs7⟩
            obtain ⟨a7, c7, rfl, _, _, _⟩ := hs7.sl_val
            have H7 := hid hs7.tail.rot4.rot4
            clear hs7 H6
            go_wp2_with fail
            with_reducible refine (newer_any w0 _ (w1.heap.size + 1) 0 B2 La ((at_ : Int) + see) k vb _ hk10 H7.out HVB.out hvl2).mono ?_
            rintro e w8 ⟨v8, rfl, hs8⟩
            obtain ⟨a8, c8, rfl, _, _, _⟩ := hs8.sl_val
            rw [← HN1.out]
            have hlen := HNL.out
            generalize (newerL va ((at_ : Int) + see)).length = nl at hlen
            have hs9 := hs8.tail
            have d0 := (hs9.of_mem (A := blk w5.heap.size 38 [.int .i64 0, .int .i64 0]) (by simp)).blk_cell 0 rfl
            have d1 := (hs9.of_mem (A := blk w5.heap.size 38 [.int .i64 0, .int .i64 0]) (by simp)).blk_cell 1 rfl
            have d2 := (hs9.of_mem (A := blk w6.heap.size 38 [.int .i64 0, .int .i64 0]) (by simp)).blk_cell 0 rfl
            have d3 := (hs9.of_mem (A := blk w6.heap.size 38 [.int .i64 0, .int .i64 0]) (by simp)).blk_cell 1 rfl
            have H9 := hid hs9
            clear hs8 hs9 H7 hvl hvl2
            go_wp2_with fail
            with_reducible refine (tell_no 8 w0 w8 _ hE H9.out).mono ?_
            rintro e w9 ⟨rfl, hs9⟩
            have H10 := hid hs9
            clear hs9 H9
            go_wp2_with fail
            with_reducible refine (tell_no 8 w0 w9 _ hE H10.out).mono ?_
            rintro e w10 ⟨rfl, hs10⟩
            have H11 := hid hs10
            clear hs10 H10
            go_wp2_with fail
            go_roundw
            case rel => exact ⟨k + 1, by omega, by go_num, H11.out.rot3.head2⟩
            case measure => simp [intOf]; omega
          | some p =>
            have H1 := hid (read_any w1.heap.size 0 A La ((at_ : Int) + see) k va w0 wr _ hk10 hsr HVA.out hvl)
            clear hsr
            go_wp2_with fail
            with_reducible refine H1.out.mono ?_
            rintro e w5 ⟨rfl, hs5⟩
            rw [hrv]
            rw [HR1.out] at hrv
            have HV := hid hrv
            clear hrv H1
            simp only [readAns]
            have H5 := hid (hs5.alloc #[.int .i64 p.1, .int .i64 p.2] 38).rot3
            clear hs5
            go_wp2_with fail
            with_reducible refine (read_any (w1.heap.size + 1) 0 B2 La ((at_ : Int) + see) k vb w0 _ _ hk10 H5.out HVB.out hvl2).mono ?_
            rintro e w6 ⟨rfl, hs6⟩
            rw [HV.out]
            simp only [readAns]
            have H6 := hid (hs6.alloc #[.int .i64 p.1, .int .i64 p.2] 38).rot4
            clear hs6 H5
            go_wp2_with fail
            with_reducible refine (newer_any w0 _ w1.heap.size 0 A La ((at_ : Int) + see) k va _ hk10 H6.out HVA.out hvl).mono ?_
            rintro e w7 ⟨v7, rfl, hs7⟩
            obtain ⟨a7, c7, rfl, _, _, _⟩ := hs7.sl_val
            have H7 := hid hs7.tail.rot4.rot4
            clear hs7 H6
            go_wp2_with fail
            with_reducible refine (newer_any w0 _ (w1.heap.size + 1) 0 B2 La ((at_ : Int) + see) k vb _ hk10 H7.out HVB.out hvl2).mono ?_
            rintro e w8 ⟨v8, rfl, hs8⟩
            obtain ⟨a8, c8, rfl, _, _, _⟩ := hs8.sl_val
            rw [← HN1.out]
            have hlen := HNL.out
            generalize (newerL va ((at_ : Int) + see)).length = nl at hlen
            have hs9 := hs8.tail
            have d0 := (hs9.of_mem (A := blk w5.heap.size 38 [.int .i64 p.1, .int .i64 p.2]) (by simp)).blk_cell 0 rfl
            have d1 := (hs9.of_mem (A := blk w5.heap.size 38 [.int .i64 p.1, .int .i64 p.2]) (by simp)).blk_cell 1 rfl
            have d2 := (hs9.of_mem (A := blk w6.heap.size 38 [.int .i64 p.1, .int .i64 p.2]) (by simp)).blk_cell 0 rfl
            have d3 := (hs9.of_mem (A := blk w6.heap.size 38 [.int .i64 p.1, .int .i64 p.2]) (by simp)).blk_cell 1 rfl
            have H9 := hid hs9
            clear hs8 hs9 H7 hvl hvl2
            go_wp2_with fail
            with_reducible refine (tell_nil w8).mono ?_
            rintro e w9 ⟨rfl, rfl⟩
            go_wp2_with fail
            with_reducible refine (tell_nil w8).mono ?_
            rintro e w9 ⟨rfl, rfl⟩
            go_wp2_with fail
            go_roundw
            case rel => exact ⟨k + 1, by omega, by go_num, H9.out.rot3.head2⟩
            case measure => simp [intOf]; omega
        · go_wp2_with fail
          go_ret
          exact ⟨rfl, hsr.1⟩
end Go.Proofs.YtbcoddibdipjkaaDoor
