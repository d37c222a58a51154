/- interleafkeep.EngineSteady: the walk. Condition: the package variable errors.errorType holds the handle of the type error. -/
import Derived.Test.YtcbokjocahnlcaaGreatDoorSd11
import Derived.Test.YtcbokjocahnlcaaGreatDoorSd15
import Derived.Test.YtcbokjocahnlcaaGreatDoorSd1
import Derived.Deep.DeepCutAuto
import Derived.Deep.CutBlock
namespace Go.Proofs.YtcbokjocahnlcaaGreatDoor
open Go Go.RowKit Go.Sep

set_option linter.unusedSimpArgs false in
set_option maxRecDepth 100000 in
set_option maxHeartbeats 16000000 in
theorem steady_any (w0 : World) (v : Value) (ls : List Act1) (hE : ErrT w0) (hv : ArgF acells 4 w0 v ls) :
    Calls Tryz.prog 3 #[v] w0 fun e w' => e = .returned (.bool true) ∧ Below w0.heap.size w0 w' := by
  obtain ⟨a, cap, rfl, hcap, hcap2, hrow⟩ := hv
  unfold maxLen at hcap2
  have hs0 := S.start w0
  by_cases h90 : 90 < ls.length
  · go_enter Tryz.func3, Tryz.ntmps3
    go_wp2_with fail
    go_ret
    exact ⟨rfl, Below.refl _ _⟩
  have h90' : ls.length ≤ 90 := by omega
  have HR := hid hrow
  clear hrow h90
  go_enter Tryz.func3, Tryz.ntmps3
  go_wp2_with fail
  with_reducible refine (ran_any w0 _ [] hE hs0).mono ?_
  rintro e w1 ⟨rfl, hs1⟩
  have HT := hid (tells_any w0 w1 [] hs1)
  clear hs0 hs1
  go_wp2_with fail
  with_reducible refine HT.out.mono ?_
  rintro e w2 ⟨b, be, rfl, hs2⟩
  have H2 := hid hs2
  clear hs2 HT
  go_wp2_with fail
  go_loopw [4] (fun c wr => ∃ i : Nat, i ≤ ls.length ∧ c = .int .i64 i ∧ ∃ t : Tale, Hid (TaleB i t) ∧ Hid (S w0 wr (tale2 b be t :: []))) (fun c _ => ls.length - (intOf c).toNat)
  case atStart => exact ⟨0, Nat.zero_le _, rfl, _, hid TaleB.start, H2⟩
  case round =>
    obtain ⟨i, hi, rfl, t, hB, hsr⟩ := hrel
    by_cases hlt : i < ls.length
    · have hp : ls[i]? = some ls[i] := by simp [hlt]
      generalize ls[i] = p at hp
      obtain ⟨bb, oo, rfl, hbb, hcc⟩ := HR.out i p hp
      have c0 := (hsr.out.1.cell (p := ⟨bb, oo + i * 4 + 0, none⟩) hbb).trans (hcc 0 _ rfl)
      have c1 := (hsr.out.1.cell (p := ⟨bb, oo + i * 4 + 1, none⟩) hbb).trans (hcc 1 _ rfl)
      have c2 := (hsr.out.1.cell (p := ⟨bb, oo + i * 4 + 2, none⟩) hbb).trans (hcc 2 _ rfl)
      have c3 := (hsr.out.1.cell (p := ⟨bb, oo + i * 4 + 3, none⟩) hbb).trans (hcc 3 _ rfl)
      rw [Nat.add_zero] at c0
      have hd := does_any w0 _ b be t p (-1) [] i hE hB.out (by omega) hsr.out
      unfold actV at hd
      have HD := hid hd
      have HB := hid (hB.out.does p (-1))
      clear hcc hd hsr hB hp
      go_wp2_with fail
      with_reducible refine HD.out.mono ?_
      rintro e w3 ⟨rfl, hs3⟩
      have hc9 : w3.cell? ⟨b, 9, none⟩ = some (.bool false) := by
        obtain ⟨bs, k, h⟩ := hs3.t2_open
        have := h.tale_see.1.broken
        rw [HB.out.law.broken] at this; exact this
      have H3 := hid hs3
      clear hs3 HD c0 c1 c2 c3
      go_wp2_with fail
      go_roundw
      case rel => exact ⟨i + 1, by omega, by go_num, _, HB, H3⟩
      case measure => simp [intOf]; omega
    · have hok := hB.out.ok
      have hlaw := hB.out.law
      obtain ⟨bs, k, hk⟩ := hsr.out.t2_open
      obtain ⟨n, hn⟩ : ∃ n, n = t.recs.length := ⟨_, rfl⟩
      have hn200 : n ≤ 200 := by rw [hn, hlaw.len]; exact hok.few
      have HOK := hid hok; have HLAW := hid hlaw; have HK := hid hk; have HN := hid hn
      clear H2 hok hlaw hsr hB hn
      by_cases hn0 : n = 0
      · subst hn0
        have cl1 := HK.out.tale_see.1.level
        obtain ⟨al, cl, hlv, _, _, _⟩ := HK.out.tale_see.2.1
        rw [hlv, ← HN.out] at cl1
        clear hlv
        go_wp2_with fail
        go_loopw [5] (fun c wq => c = .int .i64 0 ∧ wq = wr) (fun _ _ => 0)
        case atStart => exact ⟨rfl, rfl⟩
        case round =>
          obtain ⟨rfl, rfl⟩ := hrel
          go_wp2_with fail
          go_ret
          exact ⟨rfl, HK.out.1⟩
      · have hnpos : 0 < n := by omega
        obtain ⟨gl, ol, cl, gb, ob, cb, gw, ow, cw, b1, b2, b3, b4, b5, b6, hsee⟩ := law_see HN.out.symm hnpos HK.out
        unfold maxLen at b2 b4 b6
        have HSEE := hid hsee
        clear hsee
        have cl1 := (HSEE.out _ _ HK.out).level
        go_wp2_with fail
        go_loopw [5] (fun c wr => ∃ i : Nat, i ≤ n ∧ c = .int .i64 i ∧ Hid (S w0 wr (taleB b be k t :: all (recPs k.vs t.recs) :: engP be bs t.e :: []))) (fun c _ => n - (intOf c).toNat)
        case atStart => exact ⟨0, Nat.zero_le _, rfl, HK⟩
        case round =>
          rename_i iOld
          clear cl1 HK
          obtain ⟨i, hi, rfl, HK⟩ := hrel
          have cl1 := (HSEE.out _ _ HK.out).level
          by_cases hin : i < n
          · go_wp2_with fail
            go_loopw [6] (fun c wr => ∃ kk : Nat, kk ≤ i ∧ c = .int .i64 kk ∧ Hid (S w0 wr (taleB b be k t :: all (recPs k.vs t.recs) :: engP be bs t.e :: []))) (fun c _ => i - (intOf c).toNat)
            case atStart => exact ⟨0, Nat.zero_le _, rfl, HK⟩
            case round =>
              clear cl1 HK
              obtain ⟨kk, hkk, rfl, HR⟩ := hrel
              by_cases hki : kk < i
              · have hkn : kk < n := by omega
                have hq : ∀ W, S w0 W (taleB b be k t :: all (recPs k.vs t.recs) :: engP be bs t.e :: []) → W.cell? ⟨b, 1, none⟩ = some (.slice (some ⟨gl, ol, none⟩) n cl) ∧ W.cell? ⟨b, 5, none⟩ = some (.slice (some ⟨gb, ob, none⟩) n cb) ∧ W.cell? ⟨b, 6, none⟩ = some (.slice (some ⟨gw, ow, none⟩) n cw) ∧ W.cell? ⟨gl, ol + i, none⟩ = some (.int .i64 (t.one i).level) ∧ W.cell? ⟨gl, ol + kk, none⟩ = some (.int .i64 (t.one kk).level) ∧ W.cell? ⟨gb, ob + i, none⟩ = some (.int .i64 (t.one i).begun) ∧ W.cell? ⟨gw, ow + kk, none⟩ = some (.int .i64 (t.one kk).over) := fun W h => by
                  have := HSEE.out _ _ h
                  exact ⟨this.level, this.begun, this.over, this.xlevel i hin, this.xlevel kk hkn, this.xbegun i hin, this.xover kk hkn⟩
                have hci := fun W h => committedK_any w0 W b be bs k t i [] (by rw [← HLAW.out.len, ← HN.out]; exact hin) (by rw [← HLAW.out.len, ← HN.out]; omega) h
                have hck := fun W h => committedK_any w0 W b be bs k t kk [] (by rw [← HLAW.out.len, ← HN.out]; exact hkn) (by rw [← HLAW.out.len, ← HN.out]; omega) h
                have hno : (t.one i).level ≠ 0 → (t.one kk).level ≠ 0 → (t.e.tx i).state = 2 → (t.e.tx kk).state = 2 → ¬ (t.one kk).over < (t.one i).begun → ∀ p ∈ (t.e.tx i).written, ofL (t.e.tx kk).written p.1 = -1 := fun h1 h2 h3 h4 h5 => HLAW.out.steady hki (by rw [← HN.out]; exact hin) h1 h2 h3 h4 h5
                have hwi := writes_at (e := t.e) (i := i) (by rw [← HLAW.out.len, ← HN.out]; exact hin)
                have hwk := writes_at (e := t.e) (i := kk) (by rw [← HLAW.out.len, ← HN.out]; exact hkn)
                obtain ⟨li, hli⟩ : ∃ x, x = (t.one i).level := ⟨_, rfl⟩
                obtain ⟨lk, hlk⟩ : ∃ x, x = (t.one kk).level := ⟨_, rfl⟩
                obtain ⟨bi, hbi⟩ : ∃ x, x = (t.one i).begun := ⟨_, rfl⟩
                obtain ⟨vk, hvk⟩ : ∃ x, x = (t.one kk).over := ⟨_, rfl⟩
                rw [← hli, ← hlk, ← hbi, ← hvk] at hq
                rw [← hli, ← hlk, ← hbi, ← hvk] at hno
                have HQ := hid hq; have HCI := hid hci; have HCK := hid hck; have HNO0 := hid hno; have WI := hid hwi; have WK := hid hwk
                clear hq hci hck hno hwi hwk hli hlk hbi hvk
                go_upto_region 20 with fail
                by_cases h1 : li = 0
                · have n1 : (li == 0) = true := by simpa using h1
                  clear h1 HCI HCK HNO0 WI WK
                  refine wp_region_held_drew (S := fun w' => w'.cell? ⟨b, 1, none⟩ = some (.slice (some ⟨gl, ol, none⟩) n cl) ∧ w'.cell? ⟨b, 5, none⟩ = some (.slice (some ⟨gb, ob, none⟩) n cb) ∧ w'.cell? ⟨b, 6, none⟩ = some (.slice (some ⟨gw, ow, none⟩) n cw) ∧ w'.cell? ⟨gl, ol + i, none⟩ = some (.int .i64 li) ∧ w'.cell? ⟨gl, ol + kk, none⟩ = some (.int .i64 lk) ∧ w'.cell? ⟨gb, ob + i, none⟩ = some (.int .i64 bi) ∧ w'.cell? ⟨gw, ow + kk, none⟩ = some (.int .i64 vk)) (by kernel_rfl) (HQ.out _ HR.out.drew) (fun hHeld => ?_)
                  refine wpAnyH_take (i := 0) (v := ?_) rfl (by kernel_rfl) (by kernel_rfl) (by kernel_rfl) (fun _ _ _ h => h) (Or.inl ⟨by rfl, ?_⟩) hHeld ?_
                  rotate_left
                  · (intro w hSw; (try dsimp only at hSw); go_simp) <;> with_reducible rfl
                  try simp only [putU]
                  refine wpAnyH_take (i := 1) (v := ?_) rfl (by kernel_rfl) (by kernel_rfl) (by kernel_rfl) (fun _ _ _ h => h) (Or.inl ⟨by rfl, ?_⟩) hHeld ?_
                  rotate_left
                  · (intro w hSw; (try dsimp only at hSw); go_simp) <;> with_reducible rfl
                  try simp only [putU]
                  refine wpAnyH_take (i := 2) (v := ?_) rfl (by kernel_rfl) (by kernel_rfl) (by kernel_rfl) (fun _ _ _ h => h) (Or.inl ⟨by rfl, ?_⟩) hHeld ?_
                  rotate_left
                  · (intro w hSw; (try dsimp only at hSw); go_simp) <;> with_reducible rfl
                  try simp only [putU]
                  refine wpAnyH_take (i := 3) (v := ?_) rfl (by kernel_rfl) (by kernel_rfl) (by kernel_rfl) (fun _ _ _ h => h) (Or.inl ⟨by rfl, ?_⟩) hHeld ?_
                  rotate_left
                  · (intro w hSw; (try dsimp only at hSw); go_simp) <;> with_reducible rfl
                  try simp only [putU]
                  refine wpAnyH_take (i := 4) (v := ?_) rfl (by kernel_rfl) (by kernel_rfl) (by kernel_rfl) (fun _ _ _ h => h) (Or.inl ⟨by rfl, ?_⟩) hHeld ?_
                  rotate_left
                  · (intro w hSw; (try dsimp only at hSw); go_simp) <;> with_reducible rfl
                  try simp only [putU]
                  refine wpAnyH_take (i := 5) (v := ?_) rfl (by kernel_rfl) (by kernel_rfl) (by kernel_rfl) (fun _ _ _ h => h) (Or.inl ⟨by rfl, ?_⟩) hHeld ?_
                  rotate_left
                  · (intro w hSw; (try dsimp only at hSw); go_simp) <;> with_reducible rfl
                  try simp only [putU]
                  refine wpAnyH_take (i := 6) (v := ?_) rfl (by kernel_rfl) (by kernel_rfl) (by kernel_rfl) (fun _ _ _ h => h) (Or.inl ⟨by rfl, ?_⟩) hHeld ?_
                  rotate_left
                  · (intro w hSw; (try dsimp only at hSw); go_simp) <;> with_reducible rfl
                  try simp only [putU]
                  refine wpAnyH_take (i := 7) (v := ?_) rfl (by kernel_rfl) (by kernel_rfl) (by kernel_rfl) (fun _ _ _ h => h) (Or.inl ⟨by rfl, ?_⟩) hHeld ?_
                  rotate_left
                  · (intro w hSw; (try dsimp only at hSw); go_simp) <;> with_reducible rfl
                  try simp only [putU]
                  refine wpAnyH_take (i := 8) (v := ?_) rfl (by kernel_rfl) (by kernel_rfl) (by kernel_rfl) (fun _ _ _ h => h) (Or.inl ⟨by rfl, ?_⟩) hHeld ?_
                  rotate_left
                  · (intro w hSw; (try dsimp only at hSw); go_simp) <;> with_reducible rfl
                  try simp only [putU]
                  refine wpAnyH_take (i := 9) (v := undef) rfl (by kernel_rfl) (by kernel_rfl) (by kernel_rfl) (fun _ _ _ h => h) (Or.inr ⟨by rfl, rfl⟩) hHeld ?_
                  try simp only [putU]
                  refine wpAnyH_take (i := 10) (v := undef) rfl (by kernel_rfl) (by kernel_rfl) (by kernel_rfl) (fun _ _ _ h => h) (Or.inr ⟨by rfl, rfl⟩) hHeld ?_
                  try simp only [putU]
                  refine wpAnyH_take (i := 11) (v := undef) rfl (by kernel_rfl) (by kernel_rfl) (by kernel_rfl) (fun _ _ _ h => h) (Or.inr ⟨by rfl, rfl⟩) hHeld ?_
                  try simp only [putU]
                  refine wpAnyH_take (i := 12) (v := undef) rfl (by kernel_rfl) (by kernel_rfl) (by kernel_rfl) (fun _ _ _ h => h) (Or.inr ⟨by rfl, rfl⟩) hHeld ?_
                  try simp only [putU]
                  refine wpAnyH_take (i := 13) (v := undef) rfl (by kernel_rfl) (by kernel_rfl) (by kernel_rfl) (fun _ _ _ h => h) (Or.inr ⟨by rfl, rfl⟩) hHeld ?_
                  try simp only [putU]
                  refine wpAnyH_take (i := 14) (v := undef) rfl (by kernel_rfl) (by kernel_rfl) (by kernel_rfl) (fun _ _ _ h => h) (Or.inr ⟨by rfl, rfl⟩) hHeld ?_
                  try simp only [putU]
                  refine wpAnyH_take (i := 15) (v := undef) rfl (by kernel_rfl) (by kernel_rfl) (by kernel_rfl) (fun _ _ _ h => h) (Or.inr ⟨by rfl, rfl⟩) hHeld ?_
                  try simp only [putU]
                  refine wpAnyH_take (i := 16) (v := undef) rfl (by kernel_rfl) (by kernel_rfl) (by kernel_rfl) (fun _ _ _ h => h) (Or.inr ⟨by rfl, rfl⟩) hHeld ?_
                  try simp only [putU]
                  refine wpAnyH_take (i := 17) (v := ?_) rfl (by kernel_rfl) (by kernel_rfl) (by kernel_rfl) (fun _ _ _ h => h) (Or.inl ⟨by rfl, ?_⟩) hHeld ?_
                  rotate_left
                  · (intro w hSw; (try dsimp only at hSw); go_simp) <;> with_reducible rfl
                  try simp only [putU]
                  refine wpAnyH_take (i := 18) (v := ?_) rfl (by kernel_rfl) (by kernel_rfl) (by kernel_rfl) (fun _ _ _ h => h) (Or.inl ⟨by rfl, ?_⟩) hHeld ?_
                  rotate_left
                  · (intro w hSw; (try dsimp only at hSw); go_simp) <;> with_reducible rfl
                  try simp only [putU]
                  refine wpAnyH_take (i := 19) (v := undef) rfl (by kernel_rfl) (by kernel_rfl) (by kernel_rfl) (fun _ _ _ h => h) (Or.inr ⟨by rfl, rfl⟩) hHeld ?_
                  try simp only [putU]
                  refine wpAnyH_take (i := 20) (v := undef) rfl (by kernel_rfl) (by kernel_rfl) (by kernel_rfl) (fun _ _ _ h => h) (Or.inr ⟨by rfl, rfl⟩) hHeld ?_
                  try simp only [putU]
                  refine wpAnyH_take (i := 21) (v := undef) rfl (by kernel_rfl) (by kernel_rfl) (by kernel_rfl) (fun _ _ _ h => h) (Or.inr ⟨by rfl, rfl⟩) hHeld ?_
                  try simp only [putU]
                  refine wpAnyH_take (i := 22) (v := undef) rfl (by kernel_rfl) (by kernel_rfl) (by kernel_rfl) (fun _ _ _ h => h) (Or.inr ⟨by rfl, rfl⟩) hHeld ?_
                  try simp only [putU]
                  refine wpAnyH_take (i := 23) (v := ?_) rfl (by kernel_rfl) (by kernel_rfl) (by kernel_rfl) (fun _ _ _ h => h) (Or.inl ⟨by rfl, ?_⟩) hHeld ?_
                  rotate_left
                  · (intro w hSw; (try dsimp only at hSw); go_simp) <;> with_reducible rfl
                  try simp only [putU]
                  refine wpAnyH_take (i := 24) (v := ?_) rfl (by kernel_rfl) (by kernel_rfl) (by kernel_rfl) (fun _ _ _ h => h) (Or.inl ⟨by rfl, ?_⟩) hHeld ?_
                  rotate_left
                  · (intro w hSw; (try dsimp only at hSw); go_simp) <;> with_reducible rfl
                  try simp only [putU]
                  refine wpAnyH_take (i := 25) (v := undef) rfl (by kernel_rfl) (by kernel_rfl) (by kernel_rfl) (fun _ _ _ h => h) (Or.inr ⟨by rfl, rfl⟩) hHeld ?_
                  try simp only [putU]
                  refine wpAnyH_take (i := 26) (v := undef) rfl (by kernel_rfl) (by kernel_rfl) (by kernel_rfl) (fun _ _ _ h => h) (Or.inr ⟨by rfl, rfl⟩) hHeld ?_
                  try simp only [putU]
                  refine wpAnyH_take (i := 27) (v := undef) rfl (by kernel_rfl) (by kernel_rfl) (by kernel_rfl) (fun _ _ _ h => h) (Or.inr ⟨by rfl, rfl⟩) hHeld ?_
                  try simp only [putU]
                  refine wpAnyH_take (i := 28) (v := undef) rfl (by kernel_rfl) (by kernel_rfl) (by kernel_rfl) (fun _ _ _ h => h) (Or.inr ⟨by rfl, rfl⟩) hHeld ?_
                  try simp only [putU]
                  refine wpAnyH_take (i := 29) (v := ?_) rfl (by kernel_rfl) (by kernel_rfl) (by kernel_rfl) (fun _ _ _ h => h) (Or.inl ⟨by rfl, ?_⟩) hHeld ?_
                  rotate_left
                  · (intro w hSw; (try dsimp only at hSw); go_simp) <;> with_reducible rfl
                  try simp only [putU]
                  refine wpAnyH_take (i := 30) (v := ?_) rfl (by kernel_rfl) (by kernel_rfl) (by kernel_rfl) (fun _ _ _ h => h) (Or.inl ⟨by rfl, ?_⟩) hHeld ?_
                  rotate_left
                  · (intro w hSw; (try dsimp only at hSw); go_simp) <;> with_reducible rfl
                  try simp only [putU]
                  refine wpAnyH_take (i := 31) (v := undef) rfl (by kernel_rfl) (by kernel_rfl) (by kernel_rfl) (fun _ _ _ h => h) (Or.inr ⟨by rfl, rfl⟩) hHeld ?_
                  try simp only [putU]
                  refine wpAnyH_take (i := 32) (v := undef) rfl (by kernel_rfl) (by kernel_rfl) (by kernel_rfl) (fun _ _ _ h => h) (Or.inr ⟨by rfl, rfl⟩) hHeld ?_
                  try simp only [putU]
                  refine wpAnyH_take (i := 33) (v := undef) rfl (by kernel_rfl) (by kernel_rfl) (by kernel_rfl) (fun _ _ _ h => h) (Or.inr ⟨by rfl, rfl⟩) hHeld ?_
                  try simp only [putU]
                  refine wpAnyH_take (i := 34) (v := undef) rfl (by kernel_rfl) (by kernel_rfl) (by kernel_rfl) (fun _ _ _ h => h) (Or.inr ⟨by rfl, rfl⟩) hHeld ?_
                  try simp only [putU]
                  refine wpAnyH_take (i := 35) (v := undef) rfl (by kernel_rfl) (by kernel_rfl) (by kernel_rfl) (fun _ _ _ h => h) (Or.inr ⟨by rfl, rfl⟩) hHeld ?_
                  try simp only [putU]
                  refine wpAnyH_take (i := 36) (v := undef) rfl (by kernel_rfl) (by kernel_rfl) (by kernel_rfl) (fun _ _ _ h => h) (Or.inr ⟨by rfl, rfl⟩) hHeld ?_
                  try simp only [putU]
                  refine wpAnyH_take (i := 37) (v := undef) rfl (by kernel_rfl) (by kernel_rfl) (by kernel_rfl) (fun _ _ _ h => h) (Or.inr ⟨by rfl, rfl⟩) hHeld ?_
                  try simp only [putU]
                  refine wpAnyH_take (i := 38) (v := undef) rfl (by kernel_rfl) (by kernel_rfl) (by kernel_rfl) (fun _ _ _ h => h) (Or.inr ⟨by rfl, rfl⟩) hHeld ?_
                  try simp only [putU]
                  refine wpAnyH_take (i := 39) (v := undef) rfl (by kernel_rfl) (by kernel_rfl) (by kernel_rfl) (fun _ _ _ h => h) (Or.inr ⟨by rfl, rfl⟩) hHeld ?_
                  try simp only [putU]
                  refine wpAnyH_take (i := 40) (v := undef) rfl (by kernel_rfl) (by kernel_rfl) (by kernel_rfl) (fun _ _ _ h => h) (Or.inr ⟨by rfl, rfl⟩) hHeld ?_
                  try simp only [putU]
                  refine wpAnyH_take (i := 41) (v := undef) rfl (by kernel_rfl) (by kernel_rfl) (by kernel_rfl) (fun _ _ _ h => h) (Or.inr ⟨by rfl, rfl⟩) hHeld ?_
                  try simp only [putU]
                  refine wpAnyH_take (i := 42) (v := undef) rfl (by kernel_rfl) (by kernel_rfl) (by kernel_rfl) (fun _ _ _ h => h) (Or.inr ⟨by rfl, rfl⟩) hHeld ?_
                  try simp only [putU]
                  refine wpAnyH_take (i := 43) (v := undef) rfl (by kernel_rfl) (by kernel_rfl) (by kernel_rfl) (fun _ _ _ h => h) (Or.inr ⟨by rfl, rfl⟩) hHeld ?_
                  try simp only [putU]
                  refine wpAnyH_take (i := 44) (v := undef) rfl (by kernel_rfl) (by kernel_rfl) (by kernel_rfl) (fun _ _ _ h => h) (Or.inr ⟨by rfl, rfl⟩) hHeld ?_
                  try simp only [putU]
                  refine wpAnyH_take (i := 45) (v := undef) rfl (by kernel_rfl) (by kernel_rfl) (by kernel_rfl) (fun _ _ _ h => h) (Or.inr ⟨by rfl, rfl⟩) hHeld ?_
                  try simp only [putU]
                  refine wpAnyH_take (i := 46) (v := ?_) rfl (by kernel_rfl) (by kernel_rfl) (by kernel_rfl) (fun _ _ _ h => h) (Or.inl ⟨by rfl, ?_⟩) hHeld ?_
                  rotate_left
                  · (intro w hSw; (try dsimp only at hSw); go_simp) <;> with_reducible rfl
                  try simp only [putU]
                  have HS := hid HR.out.drew
                  clear hHeld
                  refine anyH_world (fun w => Hid (S w0 w _)) HS (fun w1 HS => ?_)
                  refine wpAnyH_done (by kernel_rfl) ?_ _
                  go_wp2_with fail
                  go_roundw
                  case rel => exact ⟨kk + 1, by omega, by go_num, HS⟩
                  case measure => simp [intOf]; omega
                · have n1 : (li == 0) = false := by simpa using h1
                  have H1 := hid h1
                  clear h1
                  by_cases h2 : lk = 0
                  · have n2 : (lk == 0) = true := by simpa using h2
                    clear h2 HCI HCK HNO0 WI WK
                    refine wp_region_held_drew (S := fun w' => w'.cell? ⟨b, 1, none⟩ = some (.slice (some ⟨gl, ol, none⟩) n cl) ∧ w'.cell? ⟨b, 5, none⟩ = some (.slice (some ⟨gb, ob, none⟩) n cb) ∧ w'.cell? ⟨b, 6, none⟩ = some (.slice (some ⟨gw, ow, none⟩) n cw) ∧ w'.cell? ⟨gl, ol + i, none⟩ = some (.int .i64 li) ∧ w'.cell? ⟨gl, ol + kk, none⟩ = some (.int .i64 lk) ∧ w'.cell? ⟨gb, ob + i, none⟩ = some (.int .i64 bi) ∧ w'.cell? ⟨gw, ow + kk, none⟩ = some (.int .i64 vk)) (by kernel_rfl) (HQ.out _ HR.out.drew) (fun hHeld => ?_)
                    refine wpAnyH_take (i := 0) (v := ?_) rfl (by kernel_rfl) (by kernel_rfl) (by kernel_rfl) (fun _ _ _ h => h) (Or.inl ⟨by rfl, ?_⟩) hHeld ?_
                    rotate_left
                    · (intro w hSw; (try dsimp only at hSw); go_simp) <;> with_reducible rfl
                    try simp only [putU]
                    refine wpAnyH_take (i := 1) (v := ?_) rfl (by kernel_rfl) (by kernel_rfl) (by kernel_rfl) (fun _ _ _ h => h) (Or.inl ⟨by rfl, ?_⟩) hHeld ?_
                    rotate_left
                    · (intro w hSw; (try dsimp only at hSw); go_simp) <;> with_reducible rfl
                    try simp only [putU]
                    refine wpAnyH_take (i := 2) (v := ?_) rfl (by kernel_rfl) (by kernel_rfl) (by kernel_rfl) (fun _ _ _ h => h) (Or.inl ⟨by rfl, ?_⟩) hHeld ?_
                    rotate_left
                    · (intro w hSw; (try dsimp only at hSw); go_simp) <;> with_reducible rfl
                    try simp only [putU]
                    refine wpAnyH_take (i := 3) (v := ?_) rfl (by kernel_rfl) (by kernel_rfl) (by kernel_rfl) (fun _ _ _ h => h) (Or.inl ⟨by rfl, ?_⟩) hHeld ?_
                    rotate_left
                    · (intro w hSw; (try dsimp only at hSw); go_simp) <;> with_reducible rfl
                    try simp only [putU]
                    refine wpAnyH_take (i := 4) (v := ?_) rfl (by kernel_rfl) (by kernel_rfl) (by kernel_rfl) (fun _ _ _ h => h) (Or.inl ⟨by rfl, ?_⟩) hHeld ?_
                    rotate_left
                    · (intro w hSw; (try dsimp only at hSw); go_simp) <;> with_reducible rfl
                    try simp only [putU]
                    refine wpAnyH_take (i := 5) (v := ?_) rfl (by kernel_rfl) (by kernel_rfl) (by kernel_rfl) (fun _ _ _ h => h) (Or.inl ⟨by rfl, ?_⟩) hHeld ?_
                    rotate_left
                    · (intro w hSw; (try dsimp only at hSw); go_simp) <;> with_reducible rfl
                    try simp only [putU]
                    refine wpAnyH_take (i := 6) (v := ?_) rfl (by kernel_rfl) (by kernel_rfl) (by kernel_rfl) (fun _ _ _ h => h) (Or.inl ⟨by rfl, ?_⟩) hHeld ?_
                    rotate_left
                    · (intro w hSw; (try dsimp only at hSw); go_simp) <;> with_reducible rfl
                    try simp only [putU]
                    refine wpAnyH_take (i := 7) (v := ?_) rfl (by kernel_rfl) (by kernel_rfl) (by kernel_rfl) (fun _ _ _ h => h) (Or.inl ⟨by rfl, ?_⟩) hHeld ?_
                    rotate_left
                    · (intro w hSw; (try dsimp only at hSw); go_simp) <;> with_reducible rfl
                    try simp only [putU]
                    refine wpAnyH_take (i := 8) (v := ?_) rfl (by kernel_rfl) (by kernel_rfl) (by kernel_rfl) (fun _ _ _ h => h) (Or.inl ⟨by rfl, ?_⟩) hHeld ?_
                    rotate_left
                    · (intro w hSw; (try dsimp only at hSw); go_simp) <;> with_reducible rfl
                    try simp only [putU]
                    refine wpAnyH_take (i := 9) (v := ?_) rfl (by kernel_rfl) (by kernel_rfl) (by kernel_rfl) (fun _ _ _ h => h) (Or.inl ⟨by rfl, ?_⟩) hHeld ?_
                    rotate_left
                    · (intro w hSw; (try dsimp only at hSw); go_simp) <;> with_reducible rfl
                    try simp only [putU]
                    refine wpAnyH_take (i := 10) (v := ?_) rfl (by kernel_rfl) (by kernel_rfl) (by kernel_rfl) (fun _ _ _ h => h) (Or.inl ⟨by rfl, ?_⟩) hHeld ?_
                    rotate_left
                    · (intro w hSw; (try dsimp only at hSw); go_simp) <;> with_reducible rfl
                    try simp only [putU]
                    refine wpAnyH_take (i := 11) (v := ?_) rfl (by kernel_rfl) (by kernel_rfl) (by kernel_rfl) (fun _ _ _ h => h) (Or.inl ⟨by rfl, ?_⟩) hHeld ?_
                    rotate_left
                    · (intro w hSw; (try dsimp only at hSw); go_simp) <;> with_reducible rfl
                    try simp only [putU]
                    refine wpAnyH_take (i := 12) (v := ?_) rfl (by kernel_rfl) (by kernel_rfl) (by kernel_rfl) (fun _ _ _ h => h) (Or.inl ⟨by rfl, ?_⟩) hHeld ?_
                    rotate_left
                    · (intro w hSw; (try dsimp only at hSw); go_simp) <;> with_reducible rfl
                    try simp only [putU]
                    refine wpAnyH_take (i := 13) (v := ?_) rfl (by kernel_rfl) (by kernel_rfl) (by kernel_rfl) (fun _ _ _ h => h) (Or.inl ⟨by rfl, ?_⟩) hHeld ?_
                    rotate_left
                    · (intro w hSw; (try dsimp only at hSw); go_simp) <;> with_reducible rfl
                    try simp only [putU]
                    refine wpAnyH_take (i := 14) (v := ?_) rfl (by kernel_rfl) (by kernel_rfl) (by kernel_rfl) (fun _ _ _ h => h) (Or.inl ⟨by rfl, ?_⟩) hHeld ?_
                    rotate_left
                    · (intro w hSw; (try dsimp only at hSw); go_simp) <;> with_reducible rfl
                    try simp only [putU]
                    refine wpAnyH_take (i := 15) (v := ?_) rfl (by kernel_rfl) (by kernel_rfl) (by kernel_rfl) (fun _ _ _ h => h) (Or.inl ⟨by rfl, ?_⟩) hHeld ?_
                    rotate_left
                    · (intro w hSw; (try dsimp only at hSw); go_simp) <;> with_reducible rfl
                    try simp only [putU]
                    refine wpAnyH_take (i := 16) (v := ?_) rfl (by kernel_rfl) (by kernel_rfl) (by kernel_rfl) (fun _ _ _ h => h) (Or.inl ⟨by rfl, ?_⟩) hHeld ?_
                    rotate_left
                    · (intro w hSw; (try dsimp only at hSw); go_simp) <;> with_reducible rfl
                    try simp only [putU]
                    refine wpAnyH_take (i := 17) (v := ?_) rfl (by kernel_rfl) (by kernel_rfl) (by kernel_rfl) (fun _ _ _ h => h) (Or.inl ⟨by rfl, ?_⟩) hHeld ?_
                    rotate_left
                    · (intro w hSw; (try dsimp only at hSw); go_simp) <;> with_reducible rfl
                    try simp only [putU]
                    refine wpAnyH_take (i := 18) (v := ?_) rfl (by kernel_rfl) (by kernel_rfl) (by kernel_rfl) (fun _ _ _ h => h) (Or.inl ⟨by rfl, ?_⟩) hHeld ?_
                    rotate_left
                    · (intro w hSw; (try dsimp only at hSw); go_simp) <;> with_reducible rfl
                    try simp only [putU]
                    refine wpAnyH_take (i := 19) (v := undef) rfl (by kernel_rfl) (by kernel_rfl) (by kernel_rfl) (fun _ _ _ h => h) (Or.inr ⟨by rfl, rfl⟩) hHeld ?_
                    try simp only [putU]
                    refine wpAnyH_take (i := 20) (v := undef) rfl (by kernel_rfl) (by kernel_rfl) (by kernel_rfl) (fun _ _ _ h => h) (Or.inr ⟨by rfl, rfl⟩) hHeld ?_
                    try simp only [putU]
                    refine wpAnyH_take (i := 21) (v := undef) rfl (by kernel_rfl) (by kernel_rfl) (by kernel_rfl) (fun _ _ _ h => h) (Or.inr ⟨by rfl, rfl⟩) hHeld ?_
                    try simp only [putU]
                    refine wpAnyH_take (i := 22) (v := undef) rfl (by kernel_rfl) (by kernel_rfl) (by kernel_rfl) (fun _ _ _ h => h) (Or.inr ⟨by rfl, rfl⟩) hHeld ?_
                    try simp only [putU]
                    refine wpAnyH_take (i := 23) (v := ?_) rfl (by kernel_rfl) (by kernel_rfl) (by kernel_rfl) (fun _ _ _ h => h) (Or.inl ⟨by rfl, ?_⟩) hHeld ?_
                    rotate_left
                    · (intro w hSw; (try dsimp only at hSw); go_simp) <;> with_reducible rfl
                    try simp only [putU]
                    refine wpAnyH_take (i := 24) (v := ?_) rfl (by kernel_rfl) (by kernel_rfl) (by kernel_rfl) (fun _ _ _ h => h) (Or.inl ⟨by rfl, ?_⟩) hHeld ?_
                    rotate_left
                    · (intro w hSw; (try dsimp only at hSw); go_simp) <;> with_reducible rfl
                    try simp only [putU]
                    refine wpAnyH_take (i := 25) (v := undef) rfl (by kernel_rfl) (by kernel_rfl) (by kernel_rfl) (fun _ _ _ h => h) (Or.inr ⟨by rfl, rfl⟩) hHeld ?_
                    try simp only [putU]
                    refine wpAnyH_take (i := 26) (v := undef) rfl (by kernel_rfl) (by kernel_rfl) (by kernel_rfl) (fun _ _ _ h => h) (Or.inr ⟨by rfl, rfl⟩) hHeld ?_
                    try simp only [putU]
                    refine wpAnyH_take (i := 27) (v := undef) rfl (by kernel_rfl) (by kernel_rfl) (by kernel_rfl) (fun _ _ _ h => h) (Or.inr ⟨by rfl, rfl⟩) hHeld ?_
                    try simp only [putU]
                    refine wpAnyH_take (i := 28) (v := undef) rfl (by kernel_rfl) (by kernel_rfl) (by kernel_rfl) (fun _ _ _ h => h) (Or.inr ⟨by rfl, rfl⟩) hHeld ?_
                    try simp only [putU]
                    refine wpAnyH_take (i := 29) (v := ?_) rfl (by kernel_rfl) (by kernel_rfl) (by kernel_rfl) (fun _ _ _ h => h) (Or.inl ⟨by rfl, ?_⟩) hHeld ?_
                    rotate_left
                    · (intro w hSw; (try dsimp only at hSw); go_simp) <;> with_reducible rfl
                    try simp only [putU]
                    refine wpAnyH_take (i := 30) (v := ?_) rfl (by kernel_rfl) (by kernel_rfl) (by kernel_rfl) (fun _ _ _ h => h) (Or.inl ⟨by rfl, ?_⟩) hHeld ?_
                    rotate_left
                    · (intro w hSw; (try dsimp only at hSw); go_simp) <;> with_reducible rfl
                    try simp only [putU]
                    refine wpAnyH_take (i := 31) (v := undef) rfl (by kernel_rfl) (by kernel_rfl) (by kernel_rfl) (fun _ _ _ h => h) (Or.inr ⟨by rfl, rfl⟩) hHeld ?_
                    try simp only [putU]
                    refine wpAnyH_take (i := 32) (v := undef) rfl (by kernel_rfl) (by kernel_rfl) (by kernel_rfl) (fun _ _ _ h => h) (Or.inr ⟨by rfl, rfl⟩) hHeld ?_
                    try simp only [putU]
                    refine wpAnyH_take (i := 33) (v := undef) rfl (by kernel_rfl) (by kernel_rfl) (by kernel_rfl) (fun _ _ _ h => h) (Or.inr ⟨by rfl, rfl⟩) hHeld ?_
                    try simp only [putU]
                    refine wpAnyH_take (i := 34) (v := undef) rfl (by kernel_rfl) (by kernel_rfl) (by kernel_rfl) (fun _ _ _ h => h) (Or.inr ⟨by rfl, rfl⟩) hHeld ?_
                    try simp only [putU]
                    refine wpAnyH_take (i := 35) (v := undef) rfl (by kernel_rfl) (by kernel_rfl) (by kernel_rfl) (fun _ _ _ h => h) (Or.inr ⟨by rfl, rfl⟩) hHeld ?_
                    try simp only [putU]
                    refine wpAnyH_take (i := 36) (v := undef) rfl (by kernel_rfl) (by kernel_rfl) (by kernel_rfl) (fun _ _ _ h => h) (Or.inr ⟨by rfl, rfl⟩) hHeld ?_
                    try simp only [putU]
                    refine wpAnyH_take (i := 37) (v := undef) rfl (by kernel_rfl) (by kernel_rfl) (by kernel_rfl) (fun _ _ _ h => h) (Or.inr ⟨by rfl, rfl⟩) hHeld ?_
                    try simp only [putU]
                    refine wpAnyH_take (i := 38) (v := undef) rfl (by kernel_rfl) (by kernel_rfl) (by kernel_rfl) (fun _ _ _ h => h) (Or.inr ⟨by rfl, rfl⟩) hHeld ?_
                    try simp only [putU]
                    refine wpAnyH_take (i := 39) (v := undef) rfl (by kernel_rfl) (by kernel_rfl) (by kernel_rfl) (fun _ _ _ h => h) (Or.inr ⟨by rfl, rfl⟩) hHeld ?_
                    try simp only [putU]
                    refine wpAnyH_take (i := 40) (v := undef) rfl (by kernel_rfl) (by kernel_rfl) (by kernel_rfl) (fun _ _ _ h => h) (Or.inr ⟨by rfl, rfl⟩) hHeld ?_
                    try simp only [putU]
                    refine wpAnyH_take (i := 41) (v := undef) rfl (by kernel_rfl) (by kernel_rfl) (by kernel_rfl) (fun _ _ _ h => h) (Or.inr ⟨by rfl, rfl⟩) hHeld ?_
                    try simp only [putU]
                    refine wpAnyH_take (i := 42) (v := undef) rfl (by kernel_rfl) (by kernel_rfl) (by kernel_rfl) (fun _ _ _ h => h) (Or.inr ⟨by rfl, rfl⟩) hHeld ?_
                    try simp only [putU]
                    refine wpAnyH_take (i := 43) (v := undef) rfl (by kernel_rfl) (by kernel_rfl) (by kernel_rfl) (fun _ _ _ h => h) (Or.inr ⟨by rfl, rfl⟩) hHeld ?_
                    try simp only [putU]
                    refine wpAnyH_take (i := 44) (v := undef) rfl (by kernel_rfl) (by kernel_rfl) (by kernel_rfl) (fun _ _ _ h => h) (Or.inr ⟨by rfl, rfl⟩) hHeld ?_
                    try simp only [putU]
                    refine wpAnyH_take (i := 45) (v := undef) rfl (by kernel_rfl) (by kernel_rfl) (by kernel_rfl) (fun _ _ _ h => h) (Or.inr ⟨by rfl, rfl⟩) hHeld ?_
                    try simp only [putU]
                    refine wpAnyH_take (i := 46) (v := ?_) rfl (by kernel_rfl) (by kernel_rfl) (by kernel_rfl) (fun _ _ _ h => h) (Or.inl ⟨by rfl, ?_⟩) hHeld ?_
                    rotate_left
                    · (intro w hSw; (try dsimp only at hSw); go_simp) <;> with_reducible rfl
                    try simp only [putU]
                    have HS := hid HR.out.drew
                    clear hHeld
                    refine anyH_world (fun w => Hid (S w0 w _)) HS (fun w1 HS => ?_)
                    refine wpAnyH_done (by kernel_rfl) ?_ _
                    go_wp2_with fail
                    go_roundw
                    case rel => exact ⟨kk + 1, by omega, by go_num, HS⟩
                    case measure => simp [intOf]; omega
                  · have n2 : (lk == 0) = false := by simpa using h2
                    have H2 := hid h2
                    clear h2
                    by_cases h3 : (t.e.tx i).state = 2
                    · have n3 : decide ((t.e.tx i).state = 2) = true := by simpa using h3
                      rw [n3] at HCI
                      have H3 := hid h3
                      clear h3 n3
                      by_cases h4 : (t.e.tx kk).state = 2
                      · have n4 : decide ((t.e.tx kk).state = 2) = true := by simpa using h4
                        rw [n4] at HCK
                        have H4 := hid h4
                        clear h4 n4
                        by_cases h5 : vk < bi
                        · have n5 : decide (vk < bi) = true := by simpa using h5
                          clear h5 HNO0 WI WK H1 H2 H3 H4
                          refine wp_region_held_drew (S := fun w' => w'.cell? ⟨b, 1, none⟩ = some (.slice (some ⟨gl, ol, none⟩) n cl) ∧ w'.cell? ⟨b, 5, none⟩ = some (.slice (some ⟨gb, ob, none⟩) n cb) ∧ w'.cell? ⟨b, 6, none⟩ = some (.slice (some ⟨gw, ow, none⟩) n cw) ∧ w'.cell? ⟨gl, ol + i, none⟩ = some (.int .i64 li) ∧ w'.cell? ⟨gl, ol + kk, none⟩ = some (.int .i64 lk) ∧ w'.cell? ⟨gb, ob + i, none⟩ = some (.int .i64 bi) ∧ w'.cell? ⟨gw, ow + kk, none⟩ = some (.int .i64 vk)) (by kernel_rfl) (HQ.out _ HR.out.drew) (fun hHeld => ?_)
                          refine wpAnyH_take (i := 0) (v := ?_) rfl (by kernel_rfl) (by kernel_rfl) (by kernel_rfl) (fun _ _ _ h => h) (Or.inl ⟨by rfl, ?_⟩) hHeld ?_
                          rotate_left
                          · (intro w hSw; (try dsimp only at hSw); go_simp) <;> with_reducible rfl
                          try simp only [putU]
                          refine wpAnyH_take (i := 1) (v := ?_) rfl (by kernel_rfl) (by kernel_rfl) (by kernel_rfl) (fun _ _ _ h => h) (Or.inl ⟨by rfl, ?_⟩) hHeld ?_
                          rotate_left
                          · (intro w hSw; (try dsimp only at hSw); go_simp) <;> with_reducible rfl
                          try simp only [putU]
                          refine wpAnyH_take (i := 2) (v := ?_) rfl (by kernel_rfl) (by kernel_rfl) (by kernel_rfl) (fun _ _ _ h => h) (Or.inl ⟨by rfl, ?_⟩) hHeld ?_
                          rotate_left
                          · (intro w hSw; (try dsimp only at hSw); go_simp) <;> with_reducible rfl
                          try simp only [putU]
                          refine wpAnyH_take (i := 3) (v := ?_) rfl (by kernel_rfl) (by kernel_rfl) (by kernel_rfl) (fun _ _ _ h => h) (Or.inl ⟨by rfl, ?_⟩) hHeld ?_
                          rotate_left
                          · (intro w hSw; (try dsimp only at hSw); go_simp) <;> with_reducible rfl
                          try simp only [putU]
                          refine wpAnyH_take (i := 4) (v := ?_) rfl (by kernel_rfl) (by kernel_rfl) (by kernel_rfl) (fun _ _ _ h => h) (Or.inl ⟨by rfl, ?_⟩) hHeld ?_
                          rotate_left
                          · (intro w hSw; (try dsimp only at hSw); go_simp) <;> with_reducible rfl
                          try simp only [putU]
                          refine wpAnyH_take (i := 5) (v := ?_) rfl (by kernel_rfl) (by kernel_rfl) (by kernel_rfl) (fun _ _ _ h => h) (Or.inl ⟨by rfl, ?_⟩) hHeld ?_
                          rotate_left
                          · (intro w hSw; (try dsimp only at hSw); go_simp) <;> with_reducible rfl
                          try simp only [putU]
                          refine wpAnyH_take (i := 6) (v := ?_) rfl (by kernel_rfl) (by kernel_rfl) (by kernel_rfl) (fun _ _ _ h => h) (Or.inl ⟨by rfl, ?_⟩) hHeld ?_
                          rotate_left
                          · (intro w hSw; (try dsimp only at hSw); go_simp) <;> with_reducible rfl
                          try simp only [putU]
                          refine wpAnyH_take (i := 7) (v := ?_) rfl (by kernel_rfl) (by kernel_rfl) (by kernel_rfl) (fun _ _ _ h => h) (Or.inl ⟨by rfl, ?_⟩) hHeld ?_
                          rotate_left
                          · (intro w hSw; (try dsimp only at hSw); go_simp) <;> with_reducible rfl
                          try simp only [putU]
                          refine wpAnyH_take (i := 8) (v := ?_) rfl (by kernel_rfl) (by kernel_rfl) (by kernel_rfl) (fun _ _ _ h => h) (Or.inl ⟨by rfl, ?_⟩) hHeld ?_
                          rotate_left
                          · (intro w hSw; (try dsimp only at hSw); go_simp) <;> with_reducible rfl
                          try simp only [putU]
                          refine wpAnyH_take (i := 9) (v := ?_) rfl (by kernel_rfl) (by kernel_rfl) (by kernel_rfl) (fun _ _ _ h => h) (Or.inl ⟨by rfl, ?_⟩) hHeld ?_
                          rotate_left
                          · (intro w hSw; (try dsimp only at hSw); go_simp) <;> with_reducible rfl
                          try simp only [putU]
                          refine wpAnyH_take (i := 10) (v := ?_) rfl (by kernel_rfl) (by kernel_rfl) (by kernel_rfl) (fun _ _ _ h => h) (Or.inl ⟨by rfl, ?_⟩) hHeld ?_
                          rotate_left
                          · (intro w hSw; (try dsimp only at hSw); go_simp) <;> with_reducible rfl
                          try simp only [putU]
                          refine wpAnyH_take (i := 11) (v := ?_) rfl (by kernel_rfl) (by kernel_rfl) (by kernel_rfl) (fun _ _ _ h => h) (Or.inl ⟨by rfl, ?_⟩) hHeld ?_
                          rotate_left
                          · (intro w hSw; (try dsimp only at hSw); go_simp) <;> with_reducible rfl
                          try simp only [putU]
                          refine wpAnyH_take (i := 12) (v := ?_) rfl (by kernel_rfl) (by kernel_rfl) (by kernel_rfl) (fun _ _ _ h => h) (Or.inl ⟨by rfl, ?_⟩) hHeld ?_
                          rotate_left
                          · (intro w hSw; (try dsimp only at hSw); go_simp) <;> with_reducible rfl
                          try simp only [putU]
                          refine wpAnyH_take (i := 13) (v := ?_) rfl (by kernel_rfl) (by kernel_rfl) (by kernel_rfl) (fun _ _ _ h => h) (Or.inl ⟨by rfl, ?_⟩) hHeld ?_
                          rotate_left
                          · (intro w hSw; (try dsimp only at hSw); go_simp) <;> with_reducible rfl
                          try simp only [putU]
                          refine wpAnyH_take (i := 14) (v := ?_) rfl (by kernel_rfl) (by kernel_rfl) (by kernel_rfl) (fun _ _ _ h => h) (Or.inl ⟨by rfl, ?_⟩) hHeld ?_
                          rotate_left
                          · (intro w hSw; (try dsimp only at hSw); go_simp) <;> with_reducible rfl
                          try simp only [putU]
                          refine wpAnyH_take (i := 15) (v := ?_) rfl (by kernel_rfl) (by kernel_rfl) (by kernel_rfl) (fun _ _ _ h => h) (Or.inl ⟨by rfl, ?_⟩) hHeld ?_
                          rotate_left
                          · (intro w hSw; (try dsimp only at hSw); go_simp) <;> with_reducible rfl
                          try simp only [putU]
                          refine wpAnyH_take (i := 16) (v := ?_) rfl (by kernel_rfl) (by kernel_rfl) (by kernel_rfl) (fun _ _ _ h => h) (Or.inl ⟨by rfl, ?_⟩) hHeld ?_
                          rotate_left
                          · (intro w hSw; (try dsimp only at hSw); go_simp) <;> with_reducible rfl
                          try simp only [putU]
                          refine wpAnyH_take (i := 17) (v := ?_) rfl (by kernel_rfl) (by kernel_rfl) (by kernel_rfl) (fun _ _ _ h => h) (Or.inl ⟨by rfl, ?_⟩) hHeld ?_
                          rotate_left
                          · (intro w hSw; (try dsimp only at hSw); go_simp) <;> with_reducible rfl
                          try simp only [putU]
                          refine wpAnyH_take (i := 18) (v := ?_) rfl (by kernel_rfl) (by kernel_rfl) (by kernel_rfl) (fun _ _ _ h => h) (Or.inl ⟨by rfl, ?_⟩) hHeld ?_
                          rotate_left
                          · (intro w hSw; (try dsimp only at hSw); go_simp) <;> with_reducible rfl
                          try simp only [putU]
                          refine wpAnyH_take (i := 19) (v := ?_) rfl (by kernel_rfl) (by kernel_rfl) (by kernel_rfl) (fun _ _ _ h => h) (Or.inl ⟨by rfl, ?_⟩) hHeld ?_
                          rotate_left
                          · (intro w hSw; (try dsimp only at hSw); go_simp) <;> with_reducible rfl
                          try simp only [putU]
                          refine wpAnyH_take (i := 20) (v := ?_) rfl (by kernel_rfl) (by kernel_rfl) (by kernel_rfl) (fun _ _ _ h => h) (Or.inl ⟨by rfl, ?_⟩) hHeld ?_
                          rotate_left
                          · (intro w hSw; (try dsimp only at hSw); go_simp) <;> with_reducible rfl
                          try simp only [putU]
                          have HS := hid HR.out.drew
                          clear hHeld
                          refine anyH_world (fun w => Hid (S w0 w _)) HS (fun w1 HS => ?_)
                          refine wpAnyH_ready (rs := [21]) (by kernel_rfl) (by simp) ?_
                          refine AllReadyH.cons rfl (fun K hK => ?_) AllReadyH.nil
                          go_simp
                          go_at_call 9
                          with_reducible refine (HCI.out _ HS.out).mono ?_
                          rintro r w9 ⟨rfl, hs9⟩
                          replace HS := hid hs9
                          clear hs9
                          refine hK.out _ _ (HQ.out _ HS.out) (fun _ => ?_)
                          clear hK K
                          refine wpAnyH_take (i := 22) (v := ?_) rfl (by kernel_rfl) (by kernel_rfl) (by kernel_rfl) (fun _ _ _ h => h) (Or.inl ⟨by rfl, ?_⟩) (HQ.out _ HS.out) ?_
                          rotate_left
                          · (intro w hSw; (try dsimp only at hSw); go_simp) <;> with_reducible rfl
                          try simp only [putU]
                          refine wpAnyH_take (i := 23) (v := ?_) rfl (by kernel_rfl) (by kernel_rfl) (by kernel_rfl) (fun _ _ _ h => h) (Or.inl ⟨by rfl, ?_⟩) (HQ.out _ HS.out) ?_
                          rotate_left
                          · (intro w hSw; (try dsimp only at hSw); go_simp) <;> with_reducible rfl
                          try simp only [putU]
                          refine wpAnyH_take (i := 24) (v := ?_) rfl (by kernel_rfl) (by kernel_rfl) (by kernel_rfl) (fun _ _ _ h => h) (Or.inl ⟨by rfl, ?_⟩) (HQ.out _ HS.out) ?_
                          rotate_left
                          · (intro w hSw; (try dsimp only at hSw); go_simp) <;> with_reducible rfl
                          try simp only [putU]
                          refine wpAnyH_take (i := 25) (v := ?_) rfl (by kernel_rfl) (by kernel_rfl) (by kernel_rfl) (fun _ _ _ h => h) (Or.inl ⟨by rfl, ?_⟩) (HQ.out _ HS.out) ?_
                          rotate_left
                          · (intro w hSw; (try dsimp only at hSw); go_simp) <;> with_reducible rfl
                          try simp only [putU]
                          refine wpAnyH_take (i := 26) (v := ?_) rfl (by kernel_rfl) (by kernel_rfl) (by kernel_rfl) (fun _ _ _ h => h) (Or.inl ⟨by rfl, ?_⟩) (HQ.out _ HS.out) ?_
                          rotate_left
                          · (intro w hSw; (try dsimp only at hSw); go_simp) <;> with_reducible rfl
                          try simp only [putU]
                          refine wpAnyH_ready (rs := [27]) (by kernel_rfl) (by simp) ?_
                          refine AllReadyH.cons rfl (fun K hK => ?_) AllReadyH.nil
                          go_simp
                          go_at_call 9
                          with_reducible refine (HCK.out _ HS.out).mono ?_
                          rintro r w9 ⟨rfl, hs9⟩
                          replace HS := hid hs9
                          clear hs9
                          refine hK.out _ _ (HQ.out _ HS.out) (fun _ => ?_)
                          clear hK K
                          refine wpAnyH_take (i := 28) (v := ?_) rfl (by kernel_rfl) (by kernel_rfl) (by kernel_rfl) (fun _ _ _ h => h) (Or.inl ⟨by rfl, ?_⟩) (HQ.out _ HS.out) ?_
                          rotate_left
                          · (intro w hSw; (try dsimp only at hSw); go_simp) <;> with_reducible rfl
                          try simp only [putU]
                          refine wpAnyH_take (i := 29) (v := ?_) rfl (by kernel_rfl) (by kernel_rfl) (by kernel_rfl) (fun _ _ _ h => h) (Or.inl ⟨by rfl, ?_⟩) (HQ.out _ HS.out) ?_
                          rotate_left
                          · (intro w hSw; (try dsimp only at hSw); go_simp) <;> with_reducible rfl
                          try simp only [putU]
                          refine wpAnyH_take (i := 30) (v := ?_) rfl (by kernel_rfl) (by kernel_rfl) (by kernel_rfl) (fun _ _ _ h => h) (Or.inl ⟨by rfl, ?_⟩) (HQ.out _ HS.out) ?_
                          rotate_left
                          · (intro w hSw; (try dsimp only at hSw); go_simp) <;> with_reducible rfl
                          try simp only [putU]
                          refine wpAnyH_take (i := 31) (v := ?_) rfl (by kernel_rfl) (by kernel_rfl) (by kernel_rfl) (fun _ _ _ h => h) (Or.inl ⟨by rfl, ?_⟩) (HQ.out _ HS.out) ?_
                          rotate_left
                          · (intro w hSw; (try dsimp only at hSw); go_simp) <;> with_reducible rfl
                          try simp only [putU]
                          refine wpAnyH_take (i := 32) (v := ?_) rfl (by kernel_rfl) (by kernel_rfl) (by kernel_rfl) (fun _ _ _ h => h) (Or.inl ⟨by rfl, ?_⟩) (HQ.out _ HS.out) ?_
                          rotate_left
                          · (intro w hSw; (try dsimp only at hSw); go_simp) <;> with_reducible rfl
                          try simp only [putU]
                          refine wpAnyH_take (i := 33) (v := ?_) rfl (by kernel_rfl) (by kernel_rfl) (by kernel_rfl) (fun _ _ _ h => h) (Or.inl ⟨by rfl, ?_⟩) (HQ.out _ HS.out) ?_
                          rotate_left
                          · (intro w hSw; (try dsimp only at hSw); go_simp) <;> with_reducible rfl
                          try simp only [putU]
                          refine wpAnyH_take (i := 34) (v := ?_) rfl (by kernel_rfl) (by kernel_rfl) (by kernel_rfl) (fun _ _ _ h => h) (Or.inl ⟨by rfl, ?_⟩) (HQ.out _ HS.out) ?_
                          rotate_left
                          · (intro w hSw; (try dsimp only at hSw); go_simp) <;> with_reducible rfl
                          try simp only [putU]
                          refine wpAnyH_take (i := 35) (v := ?_) rfl (by kernel_rfl) (by kernel_rfl) (by kernel_rfl) (fun _ _ _ h => h) (Or.inl ⟨by rfl, ?_⟩) (HQ.out _ HS.out) ?_
                          rotate_left
                          · (intro w hSw; (try dsimp only at hSw); go_simp) <;> with_reducible rfl
                          try simp only [putU]
                          refine wpAnyH_take (i := 36) (v := ?_) rfl (by kernel_rfl) (by kernel_rfl) (by kernel_rfl) (fun _ _ _ h => h) (Or.inl ⟨by rfl, ?_⟩) (HQ.out _ HS.out) ?_
                          rotate_left
                          · (intro w hSw; (try dsimp only at hSw); go_simp) <;> with_reducible rfl
                          try simp only [putU]
                          refine wpAnyH_take (i := 37) (v := ?_) rfl (by kernel_rfl) (by kernel_rfl) (by kernel_rfl) (fun _ _ _ h => h) (Or.inl ⟨by rfl, ?_⟩) (HQ.out _ HS.out) ?_
                          rotate_left
                          · (intro w hSw; (try dsimp only at hSw); go_simp) <;> with_reducible rfl
                          try simp only [putU]
                          refine wpAnyH_take (i := 38) (v := ?_) rfl (by kernel_rfl) (by kernel_rfl) (by kernel_rfl) (fun _ _ _ h => h) (Or.inl ⟨by rfl, ?_⟩) (HQ.out _ HS.out) ?_
                          rotate_left
                          · (intro w hSw; (try dsimp only at hSw); go_simp) <;> with_reducible rfl
                          try simp only [putU]
                          refine wpAnyH_take (i := 39) (v := ?_) rfl (by kernel_rfl) (by kernel_rfl) (by kernel_rfl) (fun _ _ _ h => h) (Or.inl ⟨by rfl, ?_⟩) (HQ.out _ HS.out) ?_
                          rotate_left
                          · (intro w hSw; (try dsimp only at hSw); go_simp) <;> with_reducible rfl
                          try simp only [putU]
                          refine wpAnyH_take (i := 40) (v := ?_) rfl (by kernel_rfl) (by kernel_rfl) (by kernel_rfl) (fun _ _ _ h => h) (Or.inl ⟨by rfl, ?_⟩) (HQ.out _ HS.out) ?_
                          rotate_left
                          · (intro w hSw; (try dsimp only at hSw); go_simp) <;> with_reducible rfl
                          try simp only [putU]
                          refine wpAnyH_take (i := 41) (v := ?_) rfl (by kernel_rfl) (by kernel_rfl) (by kernel_rfl) (fun _ _ _ h => h) (Or.inl ⟨by rfl, ?_⟩) (HQ.out _ HS.out) ?_
                          rotate_left
                          · (intro w hSw; (try dsimp only at hSw); go_simp) <;> with_reducible rfl
                          try simp only [putU]
                          refine wpAnyH_take (i := 42) (v := ?_) rfl (by kernel_rfl) (by kernel_rfl) (by kernel_rfl) (fun _ _ _ h => h) (Or.inl ⟨by rfl, ?_⟩) (HQ.out _ HS.out) ?_
                          rotate_left
                          · (intro w hSw; (try dsimp only at hSw); go_simp) <;> with_reducible rfl
                          try simp only [putU]
                          refine wpAnyH_take (i := 43) (v := ?_) rfl (by kernel_rfl) (by kernel_rfl) (by kernel_rfl) (fun _ _ _ h => h) (Or.inl ⟨by rfl, ?_⟩) (HQ.out _ HS.out) ?_
                          rotate_left
                          · (intro w hSw; (try dsimp only at hSw); go_simp) <;> with_reducible rfl
                          try simp only [putU]
                          refine wpAnyH_take (i := 44) (v := ?_) rfl (by kernel_rfl) (by kernel_rfl) (by kernel_rfl) (fun _ _ _ h => h) (Or.inl ⟨by rfl, ?_⟩) (HQ.out _ HS.out) ?_
                          rotate_left
                          · (intro w hSw; (try dsimp only at hSw); go_simp) <;> with_reducible rfl
                          try simp only [putU]
                          refine wpAnyH_take (i := 45) (v := ?_) rfl (by kernel_rfl) (by kernel_rfl) (by kernel_rfl) (fun _ _ _ h => h) (Or.inl ⟨by rfl, ?_⟩) (HQ.out _ HS.out) ?_
                          rotate_left
                          · (intro w hSw; (try dsimp only at hSw); go_simp) <;> with_reducible rfl
                          try simp only [putU]
                          refine wpAnyH_take (i := 46) (v := ?_) rfl (by kernel_rfl) (by kernel_rfl) (by kernel_rfl) (fun _ _ _ h => h) (Or.inl ⟨by rfl, ?_⟩) (HQ.out _ HS.out) ?_
                          rotate_left
                          · (intro w hSw; (try dsimp only at hSw); go_simp) <;> with_reducible rfl
                          try simp only [putU]
                          refine wpAnyH_done (by kernel_rfl) ?_ _
                          go_wp2_with fail
                          go_roundw
                          case rel => exact ⟨kk + 1, by omega, by go_num, HS⟩
                          case measure => simp [intOf]; omega
                        · have n5 : decide (vk < bi) = false := by simpa using h5
                          have HNO := hid (HNO0.out H1.out H2.out H3.out H4.out h5)
                          clear h5 HNO0 H1 H2 H3 H4
                          refine wp_region_held_drew (S := fun w' => w'.cell? ⟨b, 1, none⟩ = some (.slice (some ⟨gl, ol, none⟩) n cl) ∧ w'.cell? ⟨b, 5, none⟩ = some (.slice (some ⟨gb, ob, none⟩) n cb) ∧ w'.cell? ⟨b, 6, none⟩ = some (.slice (some ⟨gw, ow, none⟩) n cw) ∧ w'.cell? ⟨gl, ol + i, none⟩ = some (.int .i64 li) ∧ w'.cell? ⟨gl, ol + kk, none⟩ = some (.int .i64 lk) ∧ w'.cell? ⟨gb, ob + i, none⟩ = some (.int .i64 bi) ∧ w'.cell? ⟨gw, ow + kk, none⟩ = some (.int .i64 vk)) (by kernel_rfl) (HQ.out _ HR.out.drew) (fun hHeld => ?_)
                          refine wpAnyH_take (i := 0) (v := ?_) rfl (by kernel_rfl) (by kernel_rfl) (by kernel_rfl) (fun _ _ _ h => h) (Or.inl ⟨by rfl, ?_⟩) hHeld ?_
                          rotate_left
                          · (intro w hSw; (try dsimp only at hSw); go_simp) <;> with_reducible rfl
                          try simp only [putU]
                          refine wpAnyH_take (i := 1) (v := ?_) rfl (by kernel_rfl) (by kernel_rfl) (by kernel_rfl) (fun _ _ _ h => h) (Or.inl ⟨by rfl, ?_⟩) hHeld ?_
                          rotate_left
                          · (intro w hSw; (try dsimp only at hSw); go_simp) <;> with_reducible rfl
                          try simp only [putU]
                          refine wpAnyH_take (i := 2) (v := ?_) rfl (by kernel_rfl) (by kernel_rfl) (by kernel_rfl) (fun _ _ _ h => h) (Or.inl ⟨by rfl, ?_⟩) hHeld ?_
                          rotate_left
                          · (intro w hSw; (try dsimp only at hSw); go_simp) <;> with_reducible rfl
                          try simp only [putU]
                          refine wpAnyH_take (i := 3) (v := ?_) rfl (by kernel_rfl) (by kernel_rfl) (by kernel_rfl) (fun _ _ _ h => h) (Or.inl ⟨by rfl, ?_⟩) hHeld ?_
                          rotate_left
                          · (intro w hSw; (try dsimp only at hSw); go_simp) <;> with_reducible rfl
                          try simp only [putU]
                          refine wpAnyH_take (i := 4) (v := ?_) rfl (by kernel_rfl) (by kernel_rfl) (by kernel_rfl) (fun _ _ _ h => h) (Or.inl ⟨by rfl, ?_⟩) hHeld ?_
                          rotate_left
                          · (intro w hSw; (try dsimp only at hSw); go_simp) <;> with_reducible rfl
                          try simp only [putU]
                          refine wpAnyH_take (i := 5) (v := ?_) rfl (by kernel_rfl) (by kernel_rfl) (by kernel_rfl) (fun _ _ _ h => h) (Or.inl ⟨by rfl, ?_⟩) hHeld ?_
                          rotate_left
                          · (intro w hSw; (try dsimp only at hSw); go_simp) <;> with_reducible rfl
                          try simp only [putU]
                          refine wpAnyH_take (i := 6) (v := ?_) rfl (by kernel_rfl) (by kernel_rfl) (by kernel_rfl) (fun _ _ _ h => h) (Or.inl ⟨by rfl, ?_⟩) hHeld ?_
                          rotate_left
                          · (intro w hSw; (try dsimp only at hSw); go_simp) <;> with_reducible rfl
                          try simp only [putU]
                          refine wpAnyH_take (i := 7) (v := ?_) rfl (by kernel_rfl) (by kernel_rfl) (by kernel_rfl) (fun _ _ _ h => h) (Or.inl ⟨by rfl, ?_⟩) hHeld ?_
                          rotate_left
                          · (intro w hSw; (try dsimp only at hSw); go_simp) <;> with_reducible rfl
                          try simp only [putU]
                          refine wpAnyH_take (i := 8) (v := ?_) rfl (by kernel_rfl) (by kernel_rfl) (by kernel_rfl) (fun _ _ _ h => h) (Or.inl ⟨by rfl, ?_⟩) hHeld ?_
                          rotate_left
                          · (intro w hSw; (try dsimp only at hSw); go_simp) <;> with_reducible rfl
                          try simp only [putU]
                          refine wpAnyH_take (i := 9) (v := ?_) rfl (by kernel_rfl) (by kernel_rfl) (by kernel_rfl) (fun _ _ _ h => h) (Or.inl ⟨by rfl, ?_⟩) hHeld ?_
                          rotate_left
                          · (intro w hSw; (try dsimp only at hSw); go_simp) <;> with_reducible rfl
                          try simp only [putU]
                          refine wpAnyH_take (i := 10) (v := ?_) rfl (by kernel_rfl) (by kernel_rfl) (by kernel_rfl) (fun _ _ _ h => h) (Or.inl ⟨by rfl, ?_⟩) hHeld ?_
                          rotate_left
                          · (intro w hSw; (try dsimp only at hSw); go_simp) <;> with_reducible rfl
                          try simp only [putU]
                          refine wpAnyH_take (i := 11) (v := ?_) rfl (by kernel_rfl) (by kernel_rfl) (by kernel_rfl) (fun _ _ _ h => h) (Or.inl ⟨by rfl, ?_⟩) hHeld ?_
                          rotate_left
                          · (intro w hSw; (try dsimp only at hSw); go_simp) <;> with_reducible rfl
                          try simp only [putU]
                          refine wpAnyH_take (i := 12) (v := ?_) rfl (by kernel_rfl) (by kernel_rfl) (by kernel_rfl) (fun _ _ _ h => h) (Or.inl ⟨by rfl, ?_⟩) hHeld ?_
                          rotate_left
                          · (intro w hSw; (try dsimp only at hSw); go_simp) <;> with_reducible rfl
                          try simp only [putU]
                          refine wpAnyH_take (i := 13) (v := ?_) rfl (by kernel_rfl) (by kernel_rfl) (by kernel_rfl) (fun _ _ _ h => h) (Or.inl ⟨by rfl, ?_⟩) hHeld ?_
                          rotate_left
                          · (intro w hSw; (try dsimp only at hSw); go_simp) <;> with_reducible rfl
                          try simp only [putU]
                          refine wpAnyH_take (i := 14) (v := ?_) rfl (by kernel_rfl) (by kernel_rfl) (by kernel_rfl) (fun _ _ _ h => h) (Or.inl ⟨by rfl, ?_⟩) hHeld ?_
                          rotate_left
                          · (intro w hSw; (try dsimp only at hSw); go_simp) <;> with_reducible rfl
                          try simp only [putU]
                          refine wpAnyH_take (i := 15) (v := ?_) rfl (by kernel_rfl) (by kernel_rfl) (by kernel_rfl) (fun _ _ _ h => h) (Or.inl ⟨by rfl, ?_⟩) hHeld ?_
                          rotate_left
                          · (intro w hSw; (try dsimp only at hSw); go_simp) <;> with_reducible rfl
                          try simp only [putU]
                          refine wpAnyH_take (i := 16) (v := ?_) rfl (by kernel_rfl) (by kernel_rfl) (by kernel_rfl) (fun _ _ _ h => h) (Or.inl ⟨by rfl, ?_⟩) hHeld ?_
                          rotate_left
                          · (intro w hSw; (try dsimp only at hSw); go_simp) <;> with_reducible rfl
                          try simp only [putU]
                          refine wpAnyH_take (i := 17) (v := ?_) rfl (by kernel_rfl) (by kernel_rfl) (by kernel_rfl) (fun _ _ _ h => h) (Or.inl ⟨by rfl, ?_⟩) hHeld ?_
                          rotate_left
                          · (intro w hSw; (try dsimp only at hSw); go_simp) <;> with_reducible rfl
                          try simp only [putU]
                          refine wpAnyH_take (i := 18) (v := ?_) rfl (by kernel_rfl) (by kernel_rfl) (by kernel_rfl) (fun _ _ _ h => h) (Or.inl ⟨by rfl, ?_⟩) hHeld ?_
                          rotate_left
                          · (intro w hSw; (try dsimp only at hSw); go_simp) <;> with_reducible rfl
                          try simp only [putU]
                          refine wpAnyH_take (i := 19) (v := ?_) rfl (by kernel_rfl) (by kernel_rfl) (by kernel_rfl) (fun _ _ _ h => h) (Or.inl ⟨by rfl, ?_⟩) hHeld ?_
                          rotate_left
                          · (intro w hSw; (try dsimp only at hSw); go_simp) <;> with_reducible rfl
                          try simp only [putU]
                          refine wpAnyH_take (i := 20) (v := ?_) rfl (by kernel_rfl) (by kernel_rfl) (by kernel_rfl) (fun _ _ _ h => h) (Or.inl ⟨by rfl, ?_⟩) hHeld ?_
                          rotate_left
                          · (intro w hSw; (try dsimp only at hSw); go_simp) <;> with_reducible rfl
                          try simp only [putU]
                          have HS := hid HR.out.drew
                          clear hHeld
                          refine anyH_world (fun w => Hid (S w0 w _)) HS (fun w1 HS => ?_)
                          refine wpAnyH_ready (rs := [21]) (by kernel_rfl) (by simp) ?_
                          refine AllReadyH.cons rfl (fun K hK => ?_) AllReadyH.nil
                          go_simp
                          go_at_call 9
                          with_reducible refine (HCI.out _ HS.out).mono ?_
                          rintro r w9 ⟨rfl, hs9⟩
                          replace HS := hid hs9
                          clear hs9
                          refine hK.out _ _ (HQ.out _ HS.out) (fun _ => ?_)
                          clear hK K
                          refine wpAnyH_take (i := 22) (v := ?_) rfl (by kernel_rfl) (by kernel_rfl) (by kernel_rfl) (fun _ _ _ h => h) (Or.inl ⟨by rfl, ?_⟩) (HQ.out _ HS.out) ?_
                          rotate_left
                          · (intro w hSw; (try dsimp only at hSw); go_simp) <;> with_reducible rfl
                          try simp only [putU]
                          refine wpAnyH_take (i := 23) (v := ?_) rfl (by kernel_rfl) (by kernel_rfl) (by kernel_rfl) (fun _ _ _ h => h) (Or.inl ⟨by rfl, ?_⟩) (HQ.out _ HS.out) ?_
                          rotate_left
                          · (intro w hSw; (try dsimp only at hSw); go_simp) <;> with_reducible rfl
                          try simp only [putU]
                          refine wpAnyH_take (i := 24) (v := ?_) rfl (by kernel_rfl) (by kernel_rfl) (by kernel_rfl) (fun _ _ _ h => h) (Or.inl ⟨by rfl, ?_⟩) (HQ.out _ HS.out) ?_
                          rotate_left
                          · (intro w hSw; (try dsimp only at hSw); go_simp) <;> with_reducible rfl
                          try simp only [putU]
                          refine wpAnyH_take (i := 25) (v := ?_) rfl (by kernel_rfl) (by kernel_rfl) (by kernel_rfl) (fun _ _ _ h => h) (Or.inl ⟨by rfl, ?_⟩) (HQ.out _ HS.out) ?_
                          rotate_left
                          · (intro w hSw; (try dsimp only at hSw); go_simp) <;> with_reducible rfl
                          try simp only [putU]
                          refine wpAnyH_take (i := 26) (v := ?_) rfl (by kernel_rfl) (by kernel_rfl) (by kernel_rfl) (fun _ _ _ h => h) (Or.inl ⟨by rfl, ?_⟩) (HQ.out _ HS.out) ?_
                          rotate_left
                          · (intro w hSw; (try dsimp only at hSw); go_simp) <;> with_reducible rfl
                          try simp only [putU]
                          refine wpAnyH_ready (rs := [27]) (by kernel_rfl) (by simp) ?_
                          refine AllReadyH.cons rfl (fun K hK => ?_) AllReadyH.nil
                          go_simp
                          go_at_call 9
                          with_reducible refine (HCK.out _ HS.out).mono ?_
                          rintro r w9 ⟨rfl, hs9⟩
                          replace HS := hid hs9
                          clear hs9
                          refine hK.out _ _ (HQ.out _ HS.out) (fun _ => ?_)
                          clear hK K
                          refine wpAnyH_take (i := 28) (v := ?_) rfl (by kernel_rfl) (by kernel_rfl) (by kernel_rfl) (fun _ _ _ h => h) (Or.inl ⟨by rfl, ?_⟩) (HQ.out _ HS.out) ?_
                          rotate_left
                          · (intro w hSw; (try dsimp only at hSw); go_simp) <;> with_reducible rfl
                          try simp only [putU]
                          refine wpAnyH_take (i := 29) (v := ?_) rfl (by kernel_rfl) (by kernel_rfl) (by kernel_rfl) (fun _ _ _ h => h) (Or.inl ⟨by rfl, ?_⟩) (HQ.out _ HS.out) ?_
                          rotate_left
                          · (intro w hSw; (try dsimp only at hSw); go_simp) <;> with_reducible rfl
                          try simp only [putU]
                          refine wpAnyH_take (i := 30) (v := ?_) rfl (by kernel_rfl) (by kernel_rfl) (by kernel_rfl) (fun _ _ _ h => h) (Or.inl ⟨by rfl, ?_⟩) (HQ.out _ HS.out) ?_
                          rotate_left
                          · (intro w hSw; (try dsimp only at hSw); go_simp) <;> with_reducible rfl
                          try simp only [putU]
                          refine wpAnyH_take (i := 31) (v := ?_) rfl (by kernel_rfl) (by kernel_rfl) (by kernel_rfl) (fun _ _ _ h => h) (Or.inl ⟨by rfl, ?_⟩) (HQ.out _ HS.out) ?_
                          rotate_left
                          · (intro w hSw; (try dsimp only at hSw); go_simp) <;> with_reducible rfl
                          try simp only [putU]
                          refine wpAnyH_take (i := 32) (v := ?_) rfl (by kernel_rfl) (by kernel_rfl) (by kernel_rfl) (fun _ _ _ h => h) (Or.inl ⟨by rfl, ?_⟩) (HQ.out _ HS.out) ?_
                          rotate_left
                          · (intro w hSw; (try dsimp only at hSw); go_simp) <;> with_reducible rfl
                          try simp only [putU]
                          refine wpAnyH_take (i := 33) (v := ?_) rfl (by kernel_rfl) (by kernel_rfl) (by kernel_rfl) (fun _ _ _ h => h) (Or.inl ⟨by rfl, ?_⟩) (HQ.out _ HS.out) ?_
                          rotate_left
                          · (intro w hSw; (try dsimp only at hSw); go_simp) <;> with_reducible rfl
                          try simp only [putU]
                          refine wpAnyH_take (i := 34) (v := ?_) rfl (by kernel_rfl) (by kernel_rfl) (by kernel_rfl) (fun _ _ _ h => h) (Or.inl ⟨by rfl, ?_⟩) (HQ.out _ HS.out) ?_
                          rotate_left
                          · (intro w hSw; (try dsimp only at hSw); go_simp) <;> with_reducible rfl
                          try simp only [putU]
                          refine wpAnyH_take (i := 35) (v := ?_) rfl (by kernel_rfl) (by kernel_rfl) (by kernel_rfl) (fun _ _ _ h => h) (Or.inl ⟨by rfl, ?_⟩) (HQ.out _ HS.out) ?_
                          rotate_left
                          · (intro w hSw; (try dsimp only at hSw); go_simp) <;> with_reducible rfl
                          try simp only [putU]
                          refine wpAnyH_take (i := 36) (v := ?_) rfl (by kernel_rfl) (by kernel_rfl) (by kernel_rfl) (fun _ _ _ h => h) (Or.inl ⟨by rfl, ?_⟩) (HQ.out _ HS.out) ?_
                          rotate_left
                          · (intro w hSw; (try dsimp only at hSw); go_simp) <;> with_reducible rfl
                          try simp only [putU]
                          refine wpAnyH_take (i := 37) (v := ?_) rfl (by kernel_rfl) (by kernel_rfl) (by kernel_rfl) (fun _ _ _ h => h) (Or.inl ⟨by rfl, ?_⟩) (HQ.out _ HS.out) ?_
                          rotate_left
                          · (intro w hSw; (try dsimp only at hSw); go_simp) <;> with_reducible rfl
                          try simp only [putU]
                          refine wpAnyH_take (i := 38) (v := ?_) rfl (by kernel_rfl) (by kernel_rfl) (by kernel_rfl) (fun _ _ _ h => h) (Or.inl ⟨by rfl, ?_⟩) (HQ.out _ HS.out) ?_
                          rotate_left
                          · (intro w hSw; (try dsimp only at hSw); go_simp) <;> with_reducible rfl
                          try simp only [putU]
                          refine wpAnyH_take (i := 39) (v := ?_) rfl (by kernel_rfl) (by kernel_rfl) (by kernel_rfl) (fun _ _ _ h => h) (Or.inl ⟨by rfl, ?_⟩) (HQ.out _ HS.out) ?_
                          rotate_left
                          · (intro w hSw; (try dsimp only at hSw); go_simp) <;> with_reducible rfl
                          try simp only [putU]
                          refine wpAnyH_take (i := 40) (v := ?_) rfl (by kernel_rfl) (by kernel_rfl) (by kernel_rfl) (fun _ _ _ h => h) (Or.inl ⟨by rfl, ?_⟩) (HQ.out _ HS.out) ?_
                          rotate_left
                          · (intro w hSw; (try dsimp only at hSw); go_simp) <;> with_reducible rfl
                          try simp only [putU]
                          refine wpAnyH_take (i := 41) (v := ?_) rfl (by kernel_rfl) (by kernel_rfl) (by kernel_rfl) (fun _ _ _ h => h) (Or.inl ⟨by rfl, ?_⟩) (HQ.out _ HS.out) ?_
                          rotate_left
                          · (intro w hSw; (try dsimp only at hSw); go_simp) <;> with_reducible rfl
                          try simp only [putU]
                          refine wpAnyH_take (i := 42) (v := ?_) rfl (by kernel_rfl) (by kernel_rfl) (by kernel_rfl) (fun _ _ _ h => h) (Or.inl ⟨by rfl, ?_⟩) (HQ.out _ HS.out) ?_
                          rotate_left
                          · (intro w hSw; (try dsimp only at hSw); go_simp) <;> with_reducible rfl
                          try simp only [putU]
                          refine wpAnyH_take (i := 43) (v := ?_) rfl (by kernel_rfl) (by kernel_rfl) (by kernel_rfl) (fun _ _ _ h => h) (Or.inl ⟨by rfl, ?_⟩) (HQ.out _ HS.out) ?_
                          rotate_left
                          · (intro w hSw; (try dsimp only at hSw); go_simp) <;> with_reducible rfl
                          try simp only [putU]
                          refine wpAnyH_take (i := 44) (v := ?_) rfl (by kernel_rfl) (by kernel_rfl) (by kernel_rfl) (fun _ _ _ h => h) (Or.inl ⟨by rfl, ?_⟩) (HQ.out _ HS.out) ?_
                          rotate_left
                          · (intro w hSw; (try dsimp only at hSw); go_simp) <;> with_reducible rfl
                          try simp only [putU]
                          refine wpAnyH_take (i := 45) (v := ?_) rfl (by kernel_rfl) (by kernel_rfl) (by kernel_rfl) (fun _ _ _ h => h) (Or.inl ⟨by rfl, ?_⟩) (HQ.out _ HS.out) ?_
                          rotate_left
                          · (intro w hSw; (try dsimp only at hSw); go_simp) <;> with_reducible rfl
                          try simp only [putU]
                          refine wpAnyH_take (i := 46) (v := ?_) rfl (by kernel_rfl) (by kernel_rfl) (by kernel_rfl) (fun _ _ _ h => h) (Or.inl ⟨by rfl, ?_⟩) (HQ.out _ HS.out) ?_
                          rotate_left
                          · (intro w hSw; (try dsimp only at hSw); go_simp) <;> with_reducible rfl
                          try simp only [putU]
                          refine wpAnyH_done (by kernel_rfl) ?_ _
                          have hwi := ewrites_any w0 _ be bs t.e ((i : Int) + 1) _ _ [] HOK.out HS.out.rot3
                          rw [WI.out] at hwi
                          dsimp only at hwi
                          rw [errV_0] at hwi
                          have HWI := hid hwi
                          have q0 := (HSEE.out _ _ HS.out).e
                          clear hwi HS HR HCI HCK
                          go_wp2_with fail
                          with_reducible refine HWI.out.mono ?_
                          rintro r w2 ⟨v2, rfl, hs2⟩
                          obtain ⟨a2, c2, rfl, d2, e2, _⟩ := hs2.sl_val
                          have H2 := hid (hs2.conv (M := taleB b be k t :: all (recPs k.vs t.recs) :: engP be bs t.e :: sl 44 2 (.slice a2 (t.e.tx i).written.length c2) (t.e.tx i).written.length (pcells (t.e.tx i).written) :: []) (by simp only [all]; ac_rfl))
                          have hwk := ewrites_any w0 _ be bs t.e ((kk : Int) + 1) _ _ [] HOK.out H2.out.rot3
                          rw [WK.out] at hwk
                          dsimp only at hwk
                          rw [errV_0] at hwk
                          have HWK := hid hwk
                          have q0 := (HSEE.out _ _ H2.out).e
                          unfold maxLen at e2
                          clear hwk hs2 HWI H2
                          go_wp2_with fail
                          with_reducible refine HWK.out.mono ?_
                          rintro r w3 ⟨v3, rfl, hs3⟩
                          obtain ⟨a3, c3, rfl, d3, e3, _⟩ := hs3.sl_val
                          unfold maxLen at e3
                          have H3 := hid (hs3.conv (M := sl 44 2 (.slice a3 (t.e.tx kk).written.length c3) (t.e.tx kk).written.length (pcells (t.e.tx kk).written) :: sl 44 2 (.slice a2 (t.e.tx i).written.length c2) (t.e.tx i).written.length (pcells (t.e.tx i).written) :: taleB b be k t :: all (recPs k.vs t.recs) :: engP be bs t.e :: []) (by simp only [all]; ac_rfl))
                          obtain ⟨xs, hxs⟩ : ∃ xs, xs = (t.e.tx i).written := ⟨_, rfl⟩
                          obtain ⟨ys, hys⟩ : ∃ ys, ys = (t.e.tx kk).written := ⟨_, rfl⟩
                          have hno := HNO.out
                          rw [← hxs, ← hys] at H3 hno
                          rw [← hxs] at d2 ⊢
                          rw [← hys] at d3 ⊢
                          have HNO2 := hid hno
                          clear hno hs3 HWK hxs hys HNO
                          go_wp2_with fail
                          go_loopw [11] (fun c wr => ∃ a : Nat, a ≤ xs.length ∧ c = .int .i64 a ∧ wr = w3) (fun c _ => xs.length - (intOf c).toNat)
                          case atStart => exact ⟨0, Nat.zero_le _, rfl, rfl⟩
                          case round =>
                            obtain ⟨a, ha, rfl, rfl⟩ := hrel
                            by_cases hal : a < xs.length
                            · have hp : xs[a]? = some xs[a] := by simp [hal]
                              generalize xs[a] = p at hp
                              obtain ⟨g5, o5, rfl, _, d6, d7⟩ := H3.out.swap.sl_pair hp
                              have hof := of_any w0 _ _ ys p.1 _ H3.out RdK.own
                              rw [HNO2.out p (List.mem_of_getElem? hp)] at hof
                              have HOF := hid hof
                              clear hof hp
                              go_wp2_with fail
                              with_reducible refine HOF.out.mono ?_
                              rintro r w6 ⟨rfl, rfl⟩
                              go_wp2_with fail
                              go_roundw
                              case rel => exact ⟨a + 1, by omega, by go_num, trivial⟩
                              case measure => simp [intOf]; omega
                            · have HS := hid H3.out.tail.tail
                              clear H3 HNO2
                              go_wp2_with fail
                              go_roundw
                              case rel => exact ⟨kk + 1, by omega, by go_num, HS⟩
                              case measure => simp [intOf]; omega
                      · have n4 : decide ((t.e.tx kk).state = 2) = false := by simpa using h4
                        rw [n4] at HCK
                        clear h4 n4 HNO0 WI WK H1 H2 H3
                        refine wp_region_held_drew (S := fun w' => w'.cell? ⟨b, 1, none⟩ = some (.slice (some ⟨gl, ol, none⟩) n cl) ∧ w'.cell? ⟨b, 5, none⟩ = some (.slice (some ⟨gb, ob, none⟩) n cb) ∧ w'.cell? ⟨b, 6, none⟩ = some (.slice (some ⟨gw, ow, none⟩) n cw) ∧ w'.cell? ⟨gl, ol + i, none⟩ = some (.int .i64 li) ∧ w'.cell? ⟨gl, ol + kk, none⟩ = some (.int .i64 lk) ∧ w'.cell? ⟨gb, ob + i, none⟩ = some (.int .i64 bi) ∧ w'.cell? ⟨gw, ow + kk, none⟩ = some (.int .i64 vk)) (by kernel_rfl) (HQ.out _ HR.out.drew) (fun hHeld => ?_)
                        refine wpAnyH_take (i := 0) (v := ?_) rfl (by kernel_rfl) (by kernel_rfl) (by kernel_rfl) (fun _ _ _ h => h) (Or.inl ⟨by rfl, ?_⟩) hHeld ?_
                        rotate_left
                        · (intro w hSw; (try dsimp only at hSw); go_simp) <;> with_reducible rfl
                        try simp only [putU]
                        refine wpAnyH_take (i := 1) (v := ?_) rfl (by kernel_rfl) (by kernel_rfl) (by kernel_rfl) (fun _ _ _ h => h) (Or.inl ⟨by rfl, ?_⟩) hHeld ?_
                        rotate_left
                        · (intro w hSw; (try dsimp only at hSw); go_simp) <;> with_reducible rfl
                        try simp only [putU]
                        refine wpAnyH_take (i := 2) (v := ?_) rfl (by kernel_rfl) (by kernel_rfl) (by kernel_rfl) (fun _ _ _ h => h) (Or.inl ⟨by rfl, ?_⟩) hHeld ?_
                        rotate_left
                        · (intro w hSw; (try dsimp only at hSw); go_simp) <;> with_reducible rfl
                        try simp only [putU]
                        refine wpAnyH_take (i := 3) (v := ?_) rfl (by kernel_rfl) (by kernel_rfl) (by kernel_rfl) (fun _ _ _ h => h) (Or.inl ⟨by rfl, ?_⟩) hHeld ?_
                        rotate_left
                        · (intro w hSw; (try dsimp only at hSw); go_simp) <;> with_reducible rfl
                        try simp only [putU]
                        refine wpAnyH_take (i := 4) (v := ?_) rfl (by kernel_rfl) (by kernel_rfl) (by kernel_rfl) (fun _ _ _ h => h) (Or.inl ⟨by rfl, ?_⟩) hHeld ?_
                        rotate_left
                        · (intro w hSw; (try dsimp only at hSw); go_simp) <;> with_reducible rfl
                        try simp only [putU]
                        refine wpAnyH_take (i := 5) (v := ?_) rfl (by kernel_rfl) (by kernel_rfl) (by kernel_rfl) (fun _ _ _ h => h) (Or.inl ⟨by rfl, ?_⟩) hHeld ?_
                        rotate_left
                        · (intro w hSw; (try dsimp only at hSw); go_simp) <;> with_reducible rfl
                        try simp only [putU]
                        refine wpAnyH_take (i := 6) (v := ?_) rfl (by kernel_rfl) (by kernel_rfl) (by kernel_rfl) (fun _ _ _ h => h) (Or.inl ⟨by rfl, ?_⟩) hHeld ?_
                        rotate_left
                        · (intro w hSw; (try dsimp only at hSw); go_simp) <;> with_reducible rfl
                        try simp only [putU]
                        refine wpAnyH_take (i := 7) (v := ?_) rfl (by kernel_rfl) (by kernel_rfl) (by kernel_rfl) (fun _ _ _ h => h) (Or.inl ⟨by rfl, ?_⟩) hHeld ?_
                        rotate_left
                        · (intro w hSw; (try dsimp only at hSw); go_simp) <;> with_reducible rfl
                        try simp only [putU]
                        refine wpAnyH_take (i := 8) (v := ?_) rfl (by kernel_rfl) (by kernel_rfl) (by kernel_rfl) (fun _ _ _ h => h) (Or.inl ⟨by rfl, ?_⟩) hHeld ?_
                        rotate_left
                        · (intro w hSw; (try dsimp only at hSw); go_simp) <;> with_reducible rfl
                        try simp only [putU]
                        refine wpAnyH_take (i := 9) (v := ?_) rfl (by kernel_rfl) (by kernel_rfl) (by kernel_rfl) (fun _ _ _ h => h) (Or.inl ⟨by rfl, ?_⟩) hHeld ?_
                        rotate_left
                        · (intro w hSw; (try dsimp only at hSw); go_simp) <;> with_reducible rfl
                        try simp only [putU]
                        refine wpAnyH_take (i := 10) (v := ?_) rfl (by kernel_rfl) (by kernel_rfl) (by kernel_rfl) (fun _ _ _ h => h) (Or.inl ⟨by rfl, ?_⟩) hHeld ?_
                        rotate_left
                        · (intro w hSw; (try dsimp only at hSw); go_simp) <;> with_reducible rfl
                        try simp only [putU]
                        refine wpAnyH_take (i := 11) (v := ?_) rfl (by kernel_rfl) (by kernel_rfl) (by kernel_rfl) (fun _ _ _ h => h) (Or.inl ⟨by rfl, ?_⟩) hHeld ?_
                        rotate_left
                        · (intro w hSw; (try dsimp only at hSw); go_simp) <;> with_reducible rfl
                        try simp only [putU]
                        refine wpAnyH_take (i := 12) (v := ?_) rfl (by kernel_rfl) (by kernel_rfl) (by kernel_rfl) (fun _ _ _ h => h) (Or.inl ⟨by rfl, ?_⟩) hHeld ?_
                        rotate_left
                        · (intro w hSw; (try dsimp only at hSw); go_simp) <;> with_reducible rfl
                        try simp only [putU]
                        refine wpAnyH_take (i := 13) (v := ?_) rfl (by kernel_rfl) (by kernel_rfl) (by kernel_rfl) (fun _ _ _ h => h) (Or.inl ⟨by rfl, ?_⟩) hHeld ?_
                        rotate_left
                        · (intro w hSw; (try dsimp only at hSw); go_simp) <;> with_reducible rfl
                        try simp only [putU]
                        refine wpAnyH_take (i := 14) (v := ?_) rfl (by kernel_rfl) (by kernel_rfl) (by kernel_rfl) (fun _ _ _ h => h) (Or.inl ⟨by rfl, ?_⟩) hHeld ?_
                        rotate_left
                        · (intro w hSw; (try dsimp only at hSw); go_simp) <;> with_reducible rfl
                        try simp only [putU]
                        refine wpAnyH_take (i := 15) (v := ?_) rfl (by kernel_rfl) (by kernel_rfl) (by kernel_rfl) (fun _ _ _ h => h) (Or.inl ⟨by rfl, ?_⟩) hHeld ?_
                        rotate_left
                        · (intro w hSw; (try dsimp only at hSw); go_simp) <;> with_reducible rfl
                        try simp only [putU]
                        refine wpAnyH_take (i := 16) (v := ?_) rfl (by kernel_rfl) (by kernel_rfl) (by kernel_rfl) (fun _ _ _ h => h) (Or.inl ⟨by rfl, ?_⟩) hHeld ?_
                        rotate_left
                        · (intro w hSw; (try dsimp only at hSw); go_simp) <;> with_reducible rfl
                        try simp only [putU]
                        refine wpAnyH_take (i := 17) (v := ?_) rfl (by kernel_rfl) (by kernel_rfl) (by kernel_rfl) (fun _ _ _ h => h) (Or.inl ⟨by rfl, ?_⟩) hHeld ?_
                        rotate_left
                        · (intro w hSw; (try dsimp only at hSw); go_simp) <;> with_reducible rfl
                        try simp only [putU]
                        refine wpAnyH_take (i := 18) (v := ?_) rfl (by kernel_rfl) (by kernel_rfl) (by kernel_rfl) (fun _ _ _ h => h) (Or.inl ⟨by rfl, ?_⟩) hHeld ?_
                        rotate_left
                        · (intro w hSw; (try dsimp only at hSw); go_simp) <;> with_reducible rfl
                        try simp only [putU]
                        refine wpAnyH_take (i := 19) (v := ?_) rfl (by kernel_rfl) (by kernel_rfl) (by kernel_rfl) (fun _ _ _ h => h) (Or.inl ⟨by rfl, ?_⟩) hHeld ?_
                        rotate_left
                        · (intro w hSw; (try dsimp only at hSw); go_simp) <;> with_reducible rfl
                        try simp only [putU]
                        refine wpAnyH_take (i := 20) (v := ?_) rfl (by kernel_rfl) (by kernel_rfl) (by kernel_rfl) (fun _ _ _ h => h) (Or.inl ⟨by rfl, ?_⟩) hHeld ?_
                        rotate_left
                        · (intro w hSw; (try dsimp only at hSw); go_simp) <;> with_reducible rfl
                        try simp only [putU]
                        have HS := hid HR.out.drew
                        clear hHeld
                        refine anyH_world (fun w => Hid (S w0 w _)) HS (fun w1 HS => ?_)
                        refine wpAnyH_ready (rs := [21]) (by kernel_rfl) (by simp) ?_
                        refine AllReadyH.cons rfl (fun K hK => ?_) AllReadyH.nil
                        go_simp
                        go_at_call 9
                        with_reducible refine (HCI.out _ HS.out).mono ?_
                        rintro r w9 ⟨rfl, hs9⟩
                        replace HS := hid hs9
                        clear hs9
                        refine hK.out _ _ (HQ.out _ HS.out) (fun _ => ?_)
                        clear hK K
                        refine wpAnyH_take (i := 22) (v := ?_) rfl (by kernel_rfl) (by kernel_rfl) (by kernel_rfl) (fun _ _ _ h => h) (Or.inl ⟨by rfl, ?_⟩) (HQ.out _ HS.out) ?_
                        rotate_left
                        · (intro w hSw; (try dsimp only at hSw); go_simp) <;> with_reducible rfl
                        try simp only [putU]
                        refine wpAnyH_take (i := 23) (v := ?_) rfl (by kernel_rfl) (by kernel_rfl) (by kernel_rfl) (fun _ _ _ h => h) (Or.inl ⟨by rfl, ?_⟩) (HQ.out _ HS.out) ?_
                        rotate_left
                        · (intro w hSw; (try dsimp only at hSw); go_simp) <;> with_reducible rfl
                        try simp only [putU]
                        refine wpAnyH_take (i := 24) (v := ?_) rfl (by kernel_rfl) (by kernel_rfl) (by kernel_rfl) (fun _ _ _ h => h) (Or.inl ⟨by rfl, ?_⟩) (HQ.out _ HS.out) ?_
                        rotate_left
                        · (intro w hSw; (try dsimp only at hSw); go_simp) <;> with_reducible rfl
                        try simp only [putU]
                        refine wpAnyH_take (i := 25) (v := ?_) rfl (by kernel_rfl) (by kernel_rfl) (by kernel_rfl) (fun _ _ _ h => h) (Or.inl ⟨by rfl, ?_⟩) (HQ.out _ HS.out) ?_
                        rotate_left
                        · (intro w hSw; (try dsimp only at hSw); go_simp) <;> with_reducible rfl
                        try simp only [putU]
                        refine wpAnyH_take (i := 26) (v := ?_) rfl (by kernel_rfl) (by kernel_rfl) (by kernel_rfl) (fun _ _ _ h => h) (Or.inl ⟨by rfl, ?_⟩) (HQ.out _ HS.out) ?_
                        rotate_left
                        · (intro w hSw; (try dsimp only at hSw); go_simp) <;> with_reducible rfl
                        try simp only [putU]
                        refine wpAnyH_ready (rs := [27]) (by kernel_rfl) (by simp) ?_
                        refine AllReadyH.cons rfl (fun K hK => ?_) AllReadyH.nil
                        go_simp
                        go_at_call 9
                        with_reducible refine (HCK.out _ HS.out).mono ?_
                        rintro r w9 ⟨rfl, hs9⟩
                        replace HS := hid hs9
                        clear hs9
                        refine hK.out _ _ (HQ.out _ HS.out) (fun _ => ?_)
                        clear hK K
                        refine wpAnyH_take (i := 28) (v := ?_) rfl (by kernel_rfl) (by kernel_rfl) (by kernel_rfl) (fun _ _ _ h => h) (Or.inl ⟨by rfl, ?_⟩) (HQ.out _ HS.out) ?_
                        rotate_left
                        · (intro w hSw; (try dsimp only at hSw); go_simp) <;> with_reducible rfl
                        try simp only [putU]
                        refine wpAnyH_take (i := 29) (v := ?_) rfl (by kernel_rfl) (by kernel_rfl) (by kernel_rfl) (fun _ _ _ h => h) (Or.inl ⟨by rfl, ?_⟩) (HQ.out _ HS.out) ?_
                        rotate_left
                        · (intro w hSw; (try dsimp only at hSw); go_simp) <;> with_reducible rfl
                        try simp only [putU]
                        refine wpAnyH_take (i := 30) (v := ?_) rfl (by kernel_rfl) (by kernel_rfl) (by kernel_rfl) (fun _ _ _ h => h) (Or.inl ⟨by rfl, ?_⟩) (HQ.out _ HS.out) ?_
                        rotate_left
                        · (intro w hSw; (try dsimp only at hSw); go_simp) <;> with_reducible rfl
                        try simp only [putU]
                        refine wpAnyH_take (i := 31) (v := undef) rfl (by kernel_rfl) (by kernel_rfl) (by kernel_rfl) (fun _ _ _ h => h) (Or.inr ⟨by rfl, rfl⟩) (HQ.out _ HS.out) ?_
                        try simp only [putU]
                        refine wpAnyH_take (i := 32) (v := undef) rfl (by kernel_rfl) (by kernel_rfl) (by kernel_rfl) (fun _ _ _ h => h) (Or.inr ⟨by rfl, rfl⟩) (HQ.out _ HS.out) ?_
                        try simp only [putU]
                        refine wpAnyH_take (i := 33) (v := undef) rfl (by kernel_rfl) (by kernel_rfl) (by kernel_rfl) (fun _ _ _ h => h) (Or.inr ⟨by rfl, rfl⟩) (HQ.out _ HS.out) ?_
                        try simp only [putU]
                        refine wpAnyH_take (i := 34) (v := undef) rfl (by kernel_rfl) (by kernel_rfl) (by kernel_rfl) (fun _ _ _ h => h) (Or.inr ⟨by rfl, rfl⟩) (HQ.out _ HS.out) ?_
                        try simp only [putU]
                        refine wpAnyH_take (i := 35) (v := undef) rfl (by kernel_rfl) (by kernel_rfl) (by kernel_rfl) (fun _ _ _ h => h) (Or.inr ⟨by rfl, rfl⟩) (HQ.out _ HS.out) ?_
                        try simp only [putU]
                        refine wpAnyH_take (i := 36) (v := undef) rfl (by kernel_rfl) (by kernel_rfl) (by kernel_rfl) (fun _ _ _ h => h) (Or.inr ⟨by rfl, rfl⟩) (HQ.out _ HS.out) ?_
                        try simp only [putU]
                        refine wpAnyH_take (i := 37) (v := undef) rfl (by kernel_rfl) (by kernel_rfl) (by kernel_rfl) (fun _ _ _ h => h) (Or.inr ⟨by rfl, rfl⟩) (HQ.out _ HS.out) ?_
                        try simp only [putU]
                        refine wpAnyH_take (i := 38) (v := undef) rfl (by kernel_rfl) (by kernel_rfl) (by kernel_rfl) (fun _ _ _ h => h) (Or.inr ⟨by rfl, rfl⟩) (HQ.out _ HS.out) ?_
                        try simp only [putU]
                        refine wpAnyH_take (i := 39) (v := undef) rfl (by kernel_rfl) (by kernel_rfl) (by kernel_rfl) (fun _ _ _ h => h) (Or.inr ⟨by rfl, rfl⟩) (HQ.out _ HS.out) ?_
                        try simp only [putU]
                        refine wpAnyH_take (i := 40) (v := undef) rfl (by kernel_rfl) (by kernel_rfl) (by kernel_rfl) (fun _ _ _ h => h) (Or.inr ⟨by rfl, rfl⟩) (HQ.out _ HS.out) ?_
                        try simp only [putU]
                        refine wpAnyH_take (i := 41) (v := undef) rfl (by kernel_rfl) (by kernel_rfl) (by kernel_rfl) (fun _ _ _ h => h) (Or.inr ⟨by rfl, rfl⟩) (HQ.out _ HS.out) ?_
                        try simp only [putU]
                        refine wpAnyH_take (i := 42) (v := undef) rfl (by kernel_rfl) (by kernel_rfl) (by kernel_rfl) (fun _ _ _ h => h) (Or.inr ⟨by rfl, rfl⟩) (HQ.out _ HS.out) ?_
                        try simp only [putU]
                        refine wpAnyH_take (i := 43) (v := undef) rfl (by kernel_rfl) (by kernel_rfl) (by kernel_rfl) (fun _ _ _ h => h) (Or.inr ⟨by rfl, rfl⟩) (HQ.out _ HS.out) ?_
                        try simp only [putU]
                        refine wpAnyH_take (i := 44) (v := undef) rfl (by kernel_rfl) (by kernel_rfl) (by kernel_rfl) (fun _ _ _ h => h) (Or.inr ⟨by rfl, rfl⟩) (HQ.out _ HS.out) ?_
                        try simp only [putU]
                        refine wpAnyH_take (i := 45) (v := undef) rfl (by kernel_rfl) (by kernel_rfl) (by kernel_rfl) (fun _ _ _ h => h) (Or.inr ⟨by rfl, rfl⟩) (HQ.out _ HS.out) ?_
                        try simp only [putU]
                        refine wpAnyH_take (i := 46) (v := ?_) rfl (by kernel_rfl) (by kernel_rfl) (by kernel_rfl) (fun _ _ _ h => h) (Or.inl ⟨by rfl, ?_⟩) (HQ.out _ HS.out) ?_
                        rotate_left
                        · (intro w hSw; (try dsimp only at hSw); go_simp) <;> with_reducible rfl
                        try simp only [putU]
                        refine wpAnyH_done (by kernel_rfl) ?_ _
                        go_wp2_with fail
                        go_roundw
                        case rel => exact ⟨kk + 1, by omega, by go_num, HS⟩
                        case measure => simp [intOf]; omega
                    · have n3 : decide ((t.e.tx i).state = 2) = false := by simpa using h3
                      rw [n3] at HCI
                      clear h3 n3 HNO0 WI WK H1 H2
                      refine wp_region_held_drew (S := fun w' => w'.cell? ⟨b, 1, none⟩ = some (.slice (some ⟨gl, ol, none⟩) n cl) ∧ w'.cell? ⟨b, 5, none⟩ = some (.slice (some ⟨gb, ob, none⟩) n cb) ∧ w'.cell? ⟨b, 6, none⟩ = some (.slice (some ⟨gw, ow, none⟩) n cw) ∧ w'.cell? ⟨gl, ol + i, none⟩ = some (.int .i64 li) ∧ w'.cell? ⟨gl, ol + kk, none⟩ = some (.int .i64 lk) ∧ w'.cell? ⟨gb, ob + i, none⟩ = some (.int .i64 bi) ∧ w'.cell? ⟨gw, ow + kk, none⟩ = some (.int .i64 vk)) (by kernel_rfl) (HQ.out _ HR.out.drew) (fun hHeld => ?_)
                      refine wpAnyH_take (i := 0) (v := ?_) rfl (by kernel_rfl) (by kernel_rfl) (by kernel_rfl) (fun _ _ _ h => h) (Or.inl ⟨by rfl, ?_⟩) hHeld ?_
                      rotate_left
                      · (intro w hSw; (try dsimp only at hSw); go_simp) <;> with_reducible rfl
                      try simp only [putU]
                      refine wpAnyH_take (i := 1) (v := ?_) rfl (by kernel_rfl) (by kernel_rfl) (by kernel_rfl) (fun _ _ _ h => h) (Or.inl ⟨by rfl, ?_⟩) hHeld ?_
                      rotate_left
                      · (intro w hSw; (try dsimp only at hSw); go_simp) <;> with_reducible rfl
                      try simp only [putU]
                      refine wpAnyH_take (i := 2) (v := ?_) rfl (by kernel_rfl) (by kernel_rfl) (by kernel_rfl) (fun _ _ _ h => h) (Or.inl ⟨by rfl, ?_⟩) hHeld ?_
                      rotate_left
                      · (intro w hSw; (try dsimp only at hSw); go_simp) <;> with_reducible rfl
                      try simp only [putU]
                      refine wpAnyH_take (i := 3) (v := ?_) rfl (by kernel_rfl) (by kernel_rfl) (by kernel_rfl) (fun _ _ _ h => h) (Or.inl ⟨by rfl, ?_⟩) hHeld ?_
                      rotate_left
                      · (intro w hSw; (try dsimp only at hSw); go_simp) <;> with_reducible rfl
                      try simp only [putU]
                      refine wpAnyH_take (i := 4) (v := ?_) rfl (by kernel_rfl) (by kernel_rfl) (by kernel_rfl) (fun _ _ _ h => h) (Or.inl ⟨by rfl, ?_⟩) hHeld ?_
                      rotate_left
                      · (intro w hSw; (try dsimp only at hSw); go_simp) <;> with_reducible rfl
                      try simp only [putU]
                      refine wpAnyH_take (i := 5) (v := ?_) rfl (by kernel_rfl) (by kernel_rfl) (by kernel_rfl) (fun _ _ _ h => h) (Or.inl ⟨by rfl, ?_⟩) hHeld ?_
                      rotate_left
                      · (intro w hSw; (try dsimp only at hSw); go_simp) <;> with_reducible rfl
                      try simp only [putU]
                      refine wpAnyH_take (i := 6) (v := ?_) rfl (by kernel_rfl) (by kernel_rfl) (by kernel_rfl) (fun _ _ _ h => h) (Or.inl ⟨by rfl, ?_⟩) hHeld ?_
                      rotate_left
                      · (intro w hSw; (try dsimp only at hSw); go_simp) <;> with_reducible rfl
                      try simp only [putU]
                      refine wpAnyH_take (i := 7) (v := ?_) rfl (by kernel_rfl) (by kernel_rfl) (by kernel_rfl) (fun _ _ _ h => h) (Or.inl ⟨by rfl, ?_⟩) hHeld ?_
                      rotate_left
                      · (intro w hSw; (try dsimp only at hSw); go_simp) <;> with_reducible rfl
                      try simp only [putU]
                      refine wpAnyH_take (i := 8) (v := ?_) rfl (by kernel_rfl) (by kernel_rfl) (by kernel_rfl) (fun _ _ _ h => h) (Or.inl ⟨by rfl, ?_⟩) hHeld ?_
                      rotate_left
                      · (intro w hSw; (try dsimp only at hSw); go_simp) <;> with_reducible rfl
                      try simp only [putU]
                      refine wpAnyH_take (i := 9) (v := ?_) rfl (by kernel_rfl) (by kernel_rfl) (by kernel_rfl) (fun _ _ _ h => h) (Or.inl ⟨by rfl, ?_⟩) hHeld ?_
                      rotate_left
                      · (intro w hSw; (try dsimp only at hSw); go_simp) <;> with_reducible rfl
                      try simp only [putU]
                      refine wpAnyH_take (i := 10) (v := ?_) rfl (by kernel_rfl) (by kernel_rfl) (by kernel_rfl) (fun _ _ _ h => h) (Or.inl ⟨by rfl, ?_⟩) hHeld ?_
                      rotate_left
                      · (intro w hSw; (try dsimp only at hSw); go_simp) <;> with_reducible rfl
                      try simp only [putU]
                      refine wpAnyH_take (i := 11) (v := ?_) rfl (by kernel_rfl) (by kernel_rfl) (by kernel_rfl) (fun _ _ _ h => h) (Or.inl ⟨by rfl, ?_⟩) hHeld ?_
                      rotate_left
                      · (intro w hSw; (try dsimp only at hSw); go_simp) <;> with_reducible rfl
                      try simp only [putU]
                      refine wpAnyH_take (i := 12) (v := ?_) rfl (by kernel_rfl) (by kernel_rfl) (by kernel_rfl) (fun _ _ _ h => h) (Or.inl ⟨by rfl, ?_⟩) hHeld ?_
                      rotate_left
                      · (intro w hSw; (try dsimp only at hSw); go_simp) <;> with_reducible rfl
                      try simp only [putU]
                      refine wpAnyH_take (i := 13) (v := ?_) rfl (by kernel_rfl) (by kernel_rfl) (by kernel_rfl) (fun _ _ _ h => h) (Or.inl ⟨by rfl, ?_⟩) hHeld ?_
                      rotate_left
                      · (intro w hSw; (try dsimp only at hSw); go_simp) <;> with_reducible rfl
                      try simp only [putU]
                      refine wpAnyH_take (i := 14) (v := ?_) rfl (by kernel_rfl) (by kernel_rfl) (by kernel_rfl) (fun _ _ _ h => h) (Or.inl ⟨by rfl, ?_⟩) hHeld ?_
                      rotate_left
                      · (intro w hSw; (try dsimp only at hSw); go_simp) <;> with_reducible rfl
                      try simp only [putU]
                      refine wpAnyH_take (i := 15) (v := ?_) rfl (by kernel_rfl) (by kernel_rfl) (by kernel_rfl) (fun _ _ _ h => h) (Or.inl ⟨by rfl, ?_⟩) hHeld ?_
                      rotate_left
                      · (intro w hSw; (try dsimp only at hSw); go_simp) <;> with_reducible rfl
                      try simp only [putU]
                      refine wpAnyH_take (i := 16) (v := ?_) rfl (by kernel_rfl) (by kernel_rfl) (by kernel_rfl) (fun _ _ _ h => h) (Or.inl ⟨by rfl, ?_⟩) hHeld ?_
                      rotate_left
                      · (intro w hSw; (try dsimp only at hSw); go_simp) <;> with_reducible rfl
                      try simp only [putU]
                      refine wpAnyH_take (i := 17) (v := ?_) rfl (by kernel_rfl) (by kernel_rfl) (by kernel_rfl) (fun _ _ _ h => h) (Or.inl ⟨by rfl, ?_⟩) hHeld ?_
                      rotate_left
                      · (intro w hSw; (try dsimp only at hSw); go_simp) <;> with_reducible rfl
                      try simp only [putU]
                      refine wpAnyH_take (i := 18) (v := ?_) rfl (by kernel_rfl) (by kernel_rfl) (by kernel_rfl) (fun _ _ _ h => h) (Or.inl ⟨by rfl, ?_⟩) hHeld ?_
                      rotate_left
                      · (intro w hSw; (try dsimp only at hSw); go_simp) <;> with_reducible rfl
                      try simp only [putU]
                      refine wpAnyH_take (i := 19) (v := ?_) rfl (by kernel_rfl) (by kernel_rfl) (by kernel_rfl) (fun _ _ _ h => h) (Or.inl ⟨by rfl, ?_⟩) hHeld ?_
                      rotate_left
                      · (intro w hSw; (try dsimp only at hSw); go_simp) <;> with_reducible rfl
                      try simp only [putU]
                      refine wpAnyH_take (i := 20) (v := ?_) rfl (by kernel_rfl) (by kernel_rfl) (by kernel_rfl) (fun _ _ _ h => h) (Or.inl ⟨by rfl, ?_⟩) hHeld ?_
                      rotate_left
                      · (intro w hSw; (try dsimp only at hSw); go_simp) <;> with_reducible rfl
                      try simp only [putU]
                      have HS := hid HR.out.drew
                      clear hHeld
                      refine anyH_world (fun w => Hid (S w0 w _)) HS (fun w1 HS => ?_)
                      refine wpAnyH_ready (rs := [21]) (by kernel_rfl) (by simp) ?_
                      refine AllReadyH.cons rfl (fun K hK => ?_) AllReadyH.nil
                      go_simp
                      go_at_call 9
                      with_reducible refine (HCI.out _ HS.out).mono ?_
                      rintro r w9 ⟨rfl, hs9⟩
                      replace HS := hid hs9
                      clear hs9
                      refine hK.out _ _ (HQ.out _ HS.out) (fun _ => ?_)
                      clear hK K
                      refine wpAnyH_take (i := 22) (v := ?_) rfl (by kernel_rfl) (by kernel_rfl) (by kernel_rfl) (fun _ _ _ h => h) (Or.inl ⟨by rfl, ?_⟩) (HQ.out _ HS.out) ?_
                      rotate_left
                      · (intro w hSw; (try dsimp only at hSw); go_simp) <;> with_reducible rfl
                      try simp only [putU]
                      refine wpAnyH_take (i := 23) (v := ?_) rfl (by kernel_rfl) (by kernel_rfl) (by kernel_rfl) (fun _ _ _ h => h) (Or.inl ⟨by rfl, ?_⟩) (HQ.out _ HS.out) ?_
                      rotate_left
                      · (intro w hSw; (try dsimp only at hSw); go_simp) <;> with_reducible rfl
                      try simp only [putU]
                      refine wpAnyH_take (i := 24) (v := ?_) rfl (by kernel_rfl) (by kernel_rfl) (by kernel_rfl) (fun _ _ _ h => h) (Or.inl ⟨by rfl, ?_⟩) (HQ.out _ HS.out) ?_
                      rotate_left
                      · (intro w hSw; (try dsimp only at hSw); go_simp) <;> with_reducible rfl
                      try simp only [putU]
                      refine wpAnyH_take (i := 25) (v := undef) rfl (by kernel_rfl) (by kernel_rfl) (by kernel_rfl) (fun _ _ _ h => h) (Or.inr ⟨by rfl, rfl⟩) (HQ.out _ HS.out) ?_
                      try simp only [putU]
                      refine wpAnyH_take (i := 26) (v := undef) rfl (by kernel_rfl) (by kernel_rfl) (by kernel_rfl) (fun _ _ _ h => h) (Or.inr ⟨by rfl, rfl⟩) (HQ.out _ HS.out) ?_
                      try simp only [putU]
                      refine wpAnyH_take (i := 27) (v := undef) rfl (by kernel_rfl) (by kernel_rfl) (by kernel_rfl) (fun _ _ _ h => h) (Or.inr ⟨by rfl, rfl⟩) (HQ.out _ HS.out) ?_
                      try simp only [putU]
                      refine wpAnyH_take (i := 28) (v := undef) rfl (by kernel_rfl) (by kernel_rfl) (by kernel_rfl) (fun _ _ _ h => h) (Or.inr ⟨by rfl, rfl⟩) (HQ.out _ HS.out) ?_
                      try simp only [putU]
                      refine wpAnyH_take (i := 29) (v := ?_) rfl (by kernel_rfl) (by kernel_rfl) (by kernel_rfl) (fun _ _ _ h => h) (Or.inl ⟨by rfl, ?_⟩) (HQ.out _ HS.out) ?_
                      rotate_left
                      · (intro w hSw; (try dsimp only at hSw); go_simp) <;> with_reducible rfl
                      try simp only [putU]
                      refine wpAnyH_take (i := 30) (v := ?_) rfl (by kernel_rfl) (by kernel_rfl) (by kernel_rfl) (fun _ _ _ h => h) (Or.inl ⟨by rfl, ?_⟩) (HQ.out _ HS.out) ?_
                      rotate_left
                      · (intro w hSw; (try dsimp only at hSw); go_simp) <;> with_reducible rfl
                      try simp only [putU]
                      refine wpAnyH_take (i := 31) (v := undef) rfl (by kernel_rfl) (by kernel_rfl) (by kernel_rfl) (fun _ _ _ h => h) (Or.inr ⟨by rfl, rfl⟩) (HQ.out _ HS.out) ?_
                      try simp only [putU]
                      refine wpAnyH_take (i := 32) (v := undef) rfl (by kernel_rfl) (by kernel_rfl) (by kernel_rfl) (fun _ _ _ h => h) (Or.inr ⟨by rfl, rfl⟩) (HQ.out _ HS.out) ?_
                      try simp only [putU]
                      refine wpAnyH_take (i := 33) (v := undef) rfl (by kernel_rfl) (by kernel_rfl) (by kernel_rfl) (fun _ _ _ h => h) (Or.inr ⟨by rfl, rfl⟩) (HQ.out _ HS.out) ?_
                      try simp only [putU]
                      refine wpAnyH_take (i := 34) (v := undef) rfl (by kernel_rfl) (by kernel_rfl) (by kernel_rfl) (fun _ _ _ h => h) (Or.inr ⟨by rfl, rfl⟩) (HQ.out _ HS.out) ?_
                      try simp only [putU]
                      refine wpAnyH_take (i := 35) (v := undef) rfl (by kernel_rfl) (by kernel_rfl) (by kernel_rfl) (fun _ _ _ h => h) (Or.inr ⟨by rfl, rfl⟩) (HQ.out _ HS.out) ?_
                      try simp only [putU]
                      refine wpAnyH_take (i := 36) (v := undef) rfl (by kernel_rfl) (by kernel_rfl) (by kernel_rfl) (fun _ _ _ h => h) (Or.inr ⟨by rfl, rfl⟩) (HQ.out _ HS.out) ?_
                      try simp only [putU]
                      refine wpAnyH_take (i := 37) (v := undef) rfl (by kernel_rfl) (by kernel_rfl) (by kernel_rfl) (fun _ _ _ h => h) (Or.inr ⟨by rfl, rfl⟩) (HQ.out _ HS.out) ?_
                      try simp only [putU]
                      refine wpAnyH_take (i := 38) (v := undef) rfl (by kernel_rfl) (by kernel_rfl) (by kernel_rfl) (fun _ _ _ h => h) (Or.inr ⟨by rfl, rfl⟩) (HQ.out _ HS.out) ?_
                      try simp only [putU]
                      refine wpAnyH_take (i := 39) (v := undef) rfl (by kernel_rfl) (by kernel_rfl) (by kernel_rfl) (fun _ _ _ h => h) (Or.inr ⟨by rfl, rfl⟩) (HQ.out _ HS.out) ?_
                      try simp only [putU]
                      refine wpAnyH_take (i := 40) (v := undef) rfl (by kernel_rfl) (by kernel_rfl) (by kernel_rfl) (fun _ _ _ h => h) (Or.inr ⟨by rfl, rfl⟩) (HQ.out _ HS.out) ?_
                      try simp only [putU]
                      refine wpAnyH_take (i := 41) (v := undef) rfl (by kernel_rfl) (by kernel_rfl) (by kernel_rfl) (fun _ _ _ h => h) (Or.inr ⟨by rfl, rfl⟩) (HQ.out _ HS.out) ?_
                      try simp only [putU]
                      refine wpAnyH_take (i := 42) (v := undef) rfl (by kernel_rfl) (by kernel_rfl) (by kernel_rfl) (fun _ _ _ h => h) (Or.inr ⟨by rfl, rfl⟩) (HQ.out _ HS.out) ?_
                      try simp only [putU]
                      refine wpAnyH_take (i := 43) (v := undef) rfl (by kernel_rfl) (by kernel_rfl) (by kernel_rfl) (fun _ _ _ h => h) (Or.inr ⟨by rfl, rfl⟩) (HQ.out _ HS.out) ?_
                      try simp only [putU]
                      refine wpAnyH_take (i := 44) (v := undef) rfl (by kernel_rfl) (by kernel_rfl) (by kernel_rfl) (fun _ _ _ h => h) (Or.inr ⟨by rfl, rfl⟩) (HQ.out _ HS.out) ?_
                      try simp only [putU]
                      refine wpAnyH_take (i := 45) (v := undef) rfl (by kernel_rfl) (by kernel_rfl) (by kernel_rfl) (fun _ _ _ h => h) (Or.inr ⟨by rfl, rfl⟩) (HQ.out _ HS.out) ?_
                      try simp only [putU]
                      refine wpAnyH_take (i := 46) (v := ?_) rfl (by kernel_rfl) (by kernel_rfl) (by kernel_rfl) (fun _ _ _ h => h) (Or.inl ⟨by rfl, ?_⟩) (HQ.out _ HS.out) ?_
                      rotate_left
                      · (intro w hSw; (try dsimp only at hSw); go_simp) <;> with_reducible rfl
                      try simp only [putU]
                      refine wpAnyH_done (by kernel_rfl) ?_ _
                      go_wp2_with fail
                      go_roundw
                      case rel => exact ⟨kk + 1, by omega, by go_num, HS⟩
                      case measure => simp [intOf]; omega
              · have HS := HR
                clear HR
                go_wp2_with fail
                go_roundw
                case rel => exact ⟨i + 1, by omega, by go_num, HS⟩
                case measure => simp [intOf]; omega
          · go_wp2_with fail
            go_ret
            exact ⟨rfl, HK.out.1⟩
end Go.Proofs.YtcbokjocahnlcaaGreatDoor
