/- The program's store: Newer, Many, Sweep. -/
import Derived.Test.YthdiphfbjlooaaaDoorStoreW
import Derived.Test.YthdiphfbjlooaaaDoorWords2
namespace Go.Proofs.YthdiphfbjlooaaaDoor
open Go Go.RowKit Go.Sep
theorem Tryd.info3 : (Tryd.prog.info? 3).map (fun i => (i.zero, i.size, i.bytes)) = some (some (.int .i64 0), 1, 8) := by kernel_rfl

def newerL (vs : Vers) (at_ : Int) : List Int := (vs.filter fun p => decide (at_ < p.1)).map (·.1)
theorem newerL_snoc (vs : Vers) (p : Int × Int) (at_ : Int) : newerL (vs ++ [p]) at_ = newerL vs at_ ++ if at_ < p.1 then [p.1] else [] := by
  unfold newerL; rw [List.filter_append, List.map_append]; by_cases h : at_ < p.1 <;> simp [h]
theorem newerL_le (vs : Vers) (at_ : Int) : (newerL vs at_).length ≤ vs.length := by unfold newerL; rw [List.length_map]; exact List.length_filter_le _ _

theorem newer_no (b o : Nat) (k at_ : Int) (w : World) (hk : ¬ keyOk k) :
    Calls Tryd.prog 15 #[.pointer (some ⟨b, o, none⟩), .int .i64 k, .int .i64 at_] w fun e w' => e = .returned (.tuple #[.slice none 0 0, .iface 44 (.int .i64 2)]) ∧ w = w' := by
  have hk1 : decide (keyOk k) = false := by simpa using hk
  go_enter Tryd.func15, Tryd.ntmps15
  go_wp2_with (first | (go_at_call 48; refine (right_any _ _).mono ?_; rintro e w' ⟨rfl, rfl⟩))
  go_ret2
  exact ⟨rfl, rfl⟩

def NewPost (w0 : World) (b o : Nat) (V : List Vers) (last at_ : Int) (vs : Vers) (L : List HProp) (e : Ending) (w' : World) : Prop :=
  ∃ v, e = .returned (.tuple #[v, .nilIface]) ∧ S w0 w' (sl 3 1 v (newerL vs at_).length (icells (newerL vs at_)) :: storeP 38 b o V last :: L)

set_option maxHeartbeats 1000000 in
theorem newer_any (w0 w : World) (b o : Nat) (V : List Vers) (last at_ : Int) (k : Nat) (vs : Vers) (L : List HProp) (hk : k < 10)
    (hs : S w0 w (storeP 38 b o V last :: L)) (hV : V[k]? = some vs) (hb : vs.length ≤ 2000000) :
    Calls Tryd.prog 15 #[.pointer (some ⟨b, o, none⟩), .int .i64 k, .int .i64 at_] w (NewPost w0 b o V last at_ vs L) := by
  have hk1 : decide (keyOk (k : Int)) = true := decide_eq_true ⟨by omega, by omega⟩
  obtain ⟨v, vs', X, hVk, hsk, hcell, hback, -, -⟩ := hs.store_key k hk
  obtain rfl : vs = vs' := Option.some.inj (hV.symm.trans hVk)
  obtain ⟨a0, cp, rfl, hcp, hcp2, _⟩ := hsk.sl_val
  obtain ⟨c3, _, _⟩ := hcell w hsk.tail
  unfold maxLen at hcp2
  clear hs hV hVk hcell
  go_enter Tryd.func15, Tryd.ntmps15
  go_wp2_with (first | (go_at_call 48; refine (right_any _ _).mono ?_; rintro e w' ⟨rfl, rfl⟩))
  go_loopw [8, 22] (fun u c wr => ∃ i : Nat, i ≤ vs.length ∧ c = .int .i64 i ∧ S w0 wr (sl 3 1 u (newerL (vs.take i) at_).length (icells (newerL (vs.take i) at_)) :: sl 38 2 (.slice a0 vs.length cp) vs.length (pcells vs) :: X :: L)) (fun _ c _ => vs.length - (intOf c).toNat)
  case atStart => exact ⟨0, Nat.zero_le _, rfl, by simpa [newerL, icells] using hsk.sl_nil⟩
  case round =>
    obtain ⟨i, hi, rfl, hsr⟩ := hrel
    clear c3 hsk
    by_cases hlt : i < vs.length
    · have hp : vs[i]? = some vs[i] := by simp [hlt]
      generalize vs[i] = p at hp
      have htk := newerL_snoc (vs.take i) p at_
      rw [← take_succ_get hp] at htk
      have hle := newerL_le (vs.take i) at_
      rw [List.length_take] at hle
      obtain ⟨g, og, rfl, hg, c1, c2⟩ := (hsr.swap).sl_pair hp
      have HP := hid hp; clear hp
      have HT := hid htk; clear htk
      by_cases hgt : at_ < p.1
      · obtain ⟨i0, hi0, hz0, hz1, hz2⟩ := info_parts Tryd.info3
        have hs1 := (hsr.alloc #[.int .i64 p.1, .int .i64 p.2] 38).tail.alloc #[.int .i64 p.1] 3
        rw [World.size_alloc] at hs1
        have hn1 := news_blk hs1
        have hs2 := hs1.tail
        have H1 := hid hs2; have H2 := hid hn1; clear hs1 hs2 hn1 hsr
        go_wp2_with (at_builtin; refine wpList_append rfl (.tmp 30) (.tmp 33) 41 rfl 3 i0 _ 1 8 Tryd.underlying41 hi0 hz0 hz1 hz2 rfl (by decide) H1.out rfl (some ⟨wr.heap.size + 1, 0, none⟩) 1 1 [.int .i64 p.1] rfl rfl H2.out (by simp [Value.oneCell']) (by unfold maxLen; omega) (by omega) ?_; intro v1 w1 hs1; have HS := hid hs1; clear hs1)
        go_roundw
        case rel => exact ⟨i + 1, by omega, by go_num, by rw [HT.out, if_pos hgt]; simpa [icells_append, icells] using HS.out⟩
        case measure => simp [intOf]; omega
      · have hs1 := (hsr.alloc #[.int .i64 p.1, .int .i64 p.2] 38).tail
        have H1 := hid hs1; clear hs1 hsr
        go_wp2
        go_roundw
        case rel => exact ⟨i + 1, by omega, by go_num, by rw [HT.out, if_neg hgt]; simpa using H1.out⟩
        case measure => simp [intOf]; omega
    · have hil : i = vs.length := by omega
      subst hil
      rw [List.take_length] at hsr
      have hfin : ∀ v, S w0 wr (sl 3 1 v (newerL vs at_).length (icells (newerL vs at_)) :: sl 38 2 (.slice a0 vs.length cp) vs.length (pcells vs) :: X :: L) → NewPost w0 b o V last at_ vs L (.returned (.tuple #[v, .nilIface])) wr := by
        intro v h; exact ⟨v, rfl, (hback wr (_ :: L) (h.perm (by exact List.Perm.trans (List.Perm.swap _ _ _) (List.Perm.cons _ (List.Perm.swap _ _ _))))).swap⟩
      have HF := hid (hfin _ hsr); clear hfin hsr hback
      go_wp2
      go_ret2
      exact HF.out

/-! ### Many -/
theorem Tryd.size24 : (Tryd.prog.info? 24).map (·.size) = some 1 := by kernel_rfl
theorem Tryd.size25 : (Tryd.prog.info? 25).map (·.size) = some 10 := by kernel_rfl
def manyV (V : List Vers) : Nat := (V.map List.length).sum
theorem manyV_take {V : List Vers} {i : Nat} {vs : Vers} (h : V[i]? = some vs) : manyV (V.take (i + 1)) = manyV (V.take i) + vs.length := by
  unfold manyV; rw [take_succ_get h, List.map_append, List.sum_append]; simp
theorem manyV_le {V : List Vers} {N : Nat} (h : ∀ vs ∈ V, vs.length ≤ N) : manyV V ≤ N * V.length := by
  unfold manyV
  induction V with
  | nil => simp
  | cons v V ih =>
    have h1 := h v (by simp)
    have h2 := ih (fun vs hv => h vs (by simp [hv]))
    simp only [List.map_cons, List.sum_cons, List.length_cons, Nat.mul_add, Nat.mul_one]
    omega

end Go.Proofs.YthdiphfbjlooaaaDoor
