/- interleafkeep's fact kept: the walk. Conditions: the package variable errors.errorType holds the handle of the type error; the library's tables. -/
import Derived.Test.YtaghjcdlghcjeaaGreatDoorZ8
import Derived.Test.YtaghjcdlghcjeaaGreatDoorZ11
import Derived.Test.YtaghjcdlghcjeaaGreatDoorZ12
import Derived.Test.YtaghjcdlghcjeaaGreatDoorZ5
import Derived.Test.YtaghjcdlghcjeaaGreatDoorZ9
/- What a disk's places are, put into a store one behind the other; what every key has then. No walk in sight. -/
namespace Go.Proofs.YtaghjcdlghcjeaaGreatDoor
open Go Go.RowKit Go.Sep

/-- One commit more in a map of what each key has. -/
def wantL (D : List (Int × Int)) (l : Vers) : List (Int × Int) := l.foldl (fun D p => mput D p.1 p.2) D
def wantD (ls : List Vers) : List (Int × Int) := ls.foldl wantL []
theorem wantD_snoc (ls : List Vers) (l : Vers) : wantD (ls ++ [l]) = wantL (wantD ls) l := by simp [wantD]
/-- The rows of a store into which the commits were put, each at its time. -/
def rowsFrom (n : Nat) (V : List Vers) : List Vers → List Vers
  | [] => V
  | l :: ls => rowsFrom (n + 1) (putAll ((n : Int) + 1) V l) ls
def rowsD (ls : List Vers) : List Vers := rowsFrom 0 (List.replicate 10 []) ls
theorem rowsFrom_snoc : ∀ (ls : List Vers) (n : Nat) (V : List Vers) (l : Vers), rowsFrom n V (ls ++ [l]) = putAll ((n + ls.length : Nat) + 1) (rowsFrom n V ls) l
  | [], n, V, l => by simp [rowsFrom]
  | a :: ls, n, V, l => by
    rw [List.cons_append, rowsFrom, rowsFrom_snoc ls, rowsFrom, List.length_cons, show n + 1 + ls.length = n + (ls.length + 1) by omega]
theorem rowsD_snoc (ls : List Vers) (l : Vers) : rowsD (ls ++ [l]) = putAll ((ls.length : Int) + 1) (rowsD ls) l := by
  unfold rowsD; rw [rowsFrom_snoc, Nat.zero_add]
/-- What may be committed here. -/
def Fine (l : Vers) : Prop := l ≠ [] ∧ l.length ≤ 10 ∧ ∀ p ∈ l, (0 ≤ p.1 ∧ p.1 < 10) ∧ (0 ≤ p.2 ∧ p.2 < 100)
theorem Fine.two {l : Vers} (h : Fine l) : Two l := fun p hp => by have := h.2.2 p hp; omega
theorem fine_bad {l : Vers} (h : ∀ p ∈ l, (0 ≤ p.1 ∧ p.1 < 10) ∧ (0 ≤ p.2 ∧ p.2 < 100)) : ∀ n, badAt n l = none := by
  induction l with
  | nil => intro n; rfl
  | cons p l ih =>
    intro n
    have hp := h p (List.mem_cons_self ..)
    unfold badAt
    rw [if_neg (by unfold keyOk; omega), if_neg (by unfold valOk; omega)]
    exact ih (fun q hq => h q (List.mem_cons_of_mem _ hq)) (n + 1)
/-- The rows and the map tell the same; every time is at most n; a row is at most n long. -/
def Told (n : Nat) (V : List Vers) (D : List (Int × Int)) : Prop :=
  V.length = 10 ∧ (∀ vs ∈ V, ∀ p ∈ vs, p.1 ≤ (n : Int)) ∧ (D.map (·.1)).Nodup ∧ (∀ p ∈ D, (0 ≤ p.1 ∧ p.1 < 10) ∧ (0 ≤ p.2 ∧ p.2 < 100)) ∧
    ∀ k : Nat, k < 10 → (((V[k]?).getD []).getLast?).map (·.2) = mget D (k : Int)
theorem Told.start : Told 0 (List.replicate 10 []) [] := by
  refine ⟨rfl, fun vs hv => by rw [(List.mem_replicate.1 hv).2]; simp, List.nodup_nil, by simp, fun k hk => ?_⟩
  rw [List.getElem?_replicate, if_pos hk]; rfl
theorem Told.later {n : Nat} {V : List Vers} {D : List (Int × Int)} (h : Told n V D) {m : Nat} (hm : n ≤ m) : Told m V D :=
  ⟨h.1, fun vs hv p hp => by have := h.2.1 vs hv p hp; omega, h.2.2.1, h.2.2.2.1, h.2.2.2.2⟩
theorem Told.put1 {n : Nat} {V : List Vers} {D : List (Int × Int)} (h : Told n V D) {p : Int × Int} (hp : (0 ≤ p.1 ∧ p.1 < 10) ∧ (0 ≤ p.2 ∧ p.2 < 100)) : Told n (put1 (n : Int) V p) (mput D p.1 p.2) := by
  obtain ⟨k, hk⟩ : ∃ k : Nat, p.1 = k := ⟨p.1.toNat, by omega⟩
  obtain ⟨p1, p2⟩ := p
  simp only at hk hp
  subst hk
  have hk10 : k < 10 := by omega
  refine ⟨by rw [put1_length]; exact h.1, fun vs hv q hq => ?_, keys_put_nodup h.2.2.1 _ _, fun q hq => ?_, fun j hj => ?_⟩
  · unfold Go.Sep.put1 at hv
    rcases List.mem_or_eq_of_mem_set hv with hv | rfl
    · exact h.2.1 vs hv q hq
    · simp only [Int.toNat_natCast] at hq
      have hold : ∀ q ∈ (V[k]?).getD [], q.1 ≤ (n : Int) := fun q hq => by
        cases hvk : V[k]? with
        | none => rw [hvk] at hq; simp at hq
        | some vs => rw [hvk] at hq; exact h.2.1 vs (List.mem_of_getElem? hvk) q hq
      split at hq
      · rw [List.mem_append, List.mem_singleton] at hq
        rcases hq with hq | rfl
        · exact hold q ((List.dropLast_sublist _).subset hq)
        · exact Int.le_refl _
      · rw [List.mem_append, List.mem_singleton] at hq
        rcases hq with hq | rfl
        · exact hold q hq
        · exact Int.le_refl _
  · have hg := mget_mem (keys_put_nodup h.2.2.1 (k : Int) p2) (k := q.1) (v := q.2) hq
    rw [mget_put] at hg
    split at hg
    · rename_i he
      simp only [Option.some.injEq] at hg
      rw [he, ← hg]; omega
    · exact h.2.2.2.1 q (mget_some hg)
  · rw [mget_put]
    unfold Go.Sep.put1
    simp only [Int.toNat_natCast]
    by_cases hjk : j = k
    · subst hjk
      rw [List.getElem?_set_self (by rw [h.1]; exact hk10), if_pos rfl]
      simp only [Option.getD_some]
      split <;> simp
    · rw [List.getElem?_set_ne (fun e => hjk e.symm), if_neg (by omega)]
      exact h.2.2.2.2 j hj
theorem Told.putAll {n : Nat} : ∀ (l : Vers) {V : List Vers} {D : List (Int × Int)}, Told n V D → (∀ p ∈ l, (0 ≤ p.1 ∧ p.1 < 10) ∧ (0 ≤ p.2 ∧ p.2 < 100)) → Told n (putAll (n : Int) V l) (wantL D l)
  | [], _, _, h, _ => h
  | p :: l, _, _, h, hl => Told.putAll l (h.put1 (hl p (List.mem_cons_self ..))) (fun q hq => hl q (List.mem_cons_of_mem _ hq))
theorem told_all : ∀ (n : Nat) (ls : List Vers), ls.length = n → (∀ l ∈ ls, Fine l) → Told n (rowsD ls) (wantD ls)
  | 0, ls, hn, _ => by rw [List.length_eq_zero_iff.1 hn]; exact Told.start
  | n + 1, ls, hn, hl => by
    obtain ⟨ms, l, rfl⟩ : ∃ ms l, ls = ms ++ [l] := ⟨ls.dropLast, ls.getLast (by intro h; rw [h] at hn; simp at hn), (List.dropLast_concat_getLast _).symm⟩
    have hms : ms.length = n := by simpa using hn
    have ih := told_all n ms hms (fun x hx => hl x (by simp [hx]))
    rw [rowsD_snoc, wantD_snoc, hms]
    exact Told.putAll l (ih.later (Nat.le_succ n)) (hl l (by simp)).2.2
theorem readV_last {vs : Vers} {n : Int} (h : ∀ p ∈ vs, p.1 ≤ n) : readV vs n = vs.getLast? := by
  unfold readV
  cases hg : vs.getLast? with
  | none => rw [List.getLast?_eq_none_iff.1 hg]; rfl
  | some p =>
    have hr : vs.reverse.head? = some p := by rw [List.head?_reverse]; exact hg
    cases hv : vs.reverse with
    | nil => rw [hv] at hr; simp at hr
    | cons q r =>
      rw [hv] at hr
      simp only [List.head?_cons, Option.some.injEq] at hr
      subst hr
      have hm : q ∈ vs := by rw [← List.mem_reverse, hv]; exact List.mem_cons_self ..
      rw [List.find?_cons_of_pos (by simpa using h q hm)]
/-- What each key has, out of the map. -/
def listD (D : List (Int × Int)) : List (Int × Int) := allL (fun k => (mget D k).map fun v => (0, v)) 10
theorem allL_map {f g : Int → Option (Int × Int)} {n : Nat} (h : ∀ k < n, (f (k : Nat)).map (·.2) = (g (k : Nat)).map (·.2)) : allL f n = allL g n := by
  induction n with
  | zero => rfl
  | succ n ih =>
    rw [allL_succ, allL_succ, ih (fun k hk => h k (by omega))]
    have h1 := h n (by omega)
    cases hf : f (n : Int) with
    | none =>
      rw [hf] at h1
      cases hg : g (n : Int) with
      | none => rw [allK_none hf, allK_none hg]
      | some q => rw [hg] at h1; simp at h1
    | some p =>
      rw [hf] at h1
      cases hg : g (n : Int) with
      | none => rw [hg] at h1; simp at h1
      | some q =>
        rw [hg] at h1
        simp only [Option.map_some, Option.some.injEq] at h1
        rw [allK_some hf, allK_some hg, h1]
theorem allK_D (D : List (Int × Int)) (n : Nat) : allK (fun k => (mget D k).map fun v => ((0 : Int), v)) n = ((mget D (n : Int)).map fun v => ((n : Int), v)).toList := by
  cases h : mget D (n : Int) with
  | none => rw [allK_none (by simp [h])]; rfl
  | some v => rw [allK_some (p := (0, v)) (by simp [h])]; rfl
theorem Told.all {n : Nat} {V : List Vers} {D : List (Int × Int)} (h : Told n V D) : allL (fun k => readV ((V[k.toNat]?).getD []) (n : Int)) 10 = listD D := by
  refine allL_map fun k hk => ?_
  rw [Int.toNat_natCast, readV_last (fun p hp => ?_), h.2.2.2.2 k hk]
  · rw [Option.map_map]
    cases mget D (k : Int) <;> rfl
  · cases hv : V[k]? with
    | none => rw [hv] at hp; simp at hp
    | some vs => rw [hv] at hp; exact h.2.1 vs (List.mem_of_getElem? hv) p hp
theorem listD_mem {D : List (Int × Int)} {p : Int × Int} : p ∈ listD D ↔ (0 ≤ p.1 ∧ p.1 < 10) ∧ mget D p.1 = some p.2 := by
  unfold listD allL
  rw [List.mem_flatMap]
  constructor
  · rintro ⟨k, hk, hp⟩
    rw [List.mem_range] at hk
    rw [allK_D] at hp
    cases hg : mget D (k : Int) with
    | none => rw [hg] at hp; simp at hp
    | some v => rw [hg] at hp; simp at hp; subst hp; exact ⟨by simp only; omega, hg⟩
  · rintro ⟨hk, hg⟩
    refine ⟨p.1.toNat, by rw [List.mem_range]; omega, ?_⟩
    rw [allK_D, show ((p.1.toNat : Nat) : Int) = p.1 by omega, hg]
    simp
theorem listD_keys (D : List (Int × Int)) : ((listD D).map (·.1)).Nodup := by
  have : ∀ n, ((allL (fun k => (mget D k).map fun v => ((0 : Int), v)) n).map (·.1)).Nodup ∧ ∀ x ∈ (allL (fun k => (mget D k).map fun v => ((0 : Int), v)) n).map (·.1), x < (n : Int) := by
    intro n
    induction n with
    | zero => simp [allL]
    | succ n ih =>
      rw [allL_succ, List.map_append, allK_D]
      cases hg : mget D (n : Int) with
      | none => simp only [Option.map_none, Option.toList_none, List.map_nil, List.append_nil]; exact ⟨ih.1, fun x hx => by have := ih.2 x hx; omega⟩
      | some v =>
        simp only [Option.map_some, Option.toList_some, List.map_cons, List.map_nil]
        refine ⟨List.nodup_append.2 ⟨ih.1, by simp, fun a ha b hb => ?_⟩, fun x hx => ?_⟩
        · rw [List.mem_singleton] at hb; subst hb
          have := ih.2 a ha; omega
        · rw [List.mem_append, List.mem_singleton] at hx
          rcases hx with hx | rfl
          · have := ih.2 x hx; omega
          · omega
  exact (this 10).1
/-- As many as the map has. -/
theorem listD_length {n : Nat} {V : List Vers} {D : List (Int × Int)} (h : Told n V D) : (listD D).length = D.length := by
  have h1 : ((listD D).map (·.1)).Perm (D.map (·.1)) := by
    rw [List.perm_ext_iff_of_nodup (listD_keys D) h.2.2.1]
    intro k
    constructor
    · intro hk
      obtain ⟨p, hp, rfl⟩ := List.mem_map.1 hk
      exact List.mem_map.2 ⟨_, mget_some (listD_mem.1 hp).2, rfl⟩
    · intro hk
      obtain ⟨p, hp, rfl⟩ := List.mem_map.1 hk
      have hg := mget_mem h.2.2.1 (k := p.1) (v := p.2) hp
      exact List.mem_map.2 ⟨p, listD_mem.2 ⟨(h.2.2.2.1 p hp).1, hg⟩, rfl⟩
  simpa using h1.length_eq
end Go.Proofs.YtaghjcdlghcjeaaGreatDoor
/- base.Open: the walk. -/
namespace Go.Proofs.YtaghjcdlghcjeaaGreatDoor
open Go Go.RowKit Go.Sep

/-- A place that is empty, or torn. -/
def Torn (k : Nat) (p : List UInt8) : Prop := p = [] ∨ k < 100 ∧ ∃ l, Safe k l ∧ Two l ∧ l.length ≤ 10 ∧ p <+: sealL k l ∧ p ≠ sealL k l
/-- What lies on a disk: these commits, then perhaps a torn place, then nothing. -/
def DiskOk (d : Dsk) (ls : List Vers) : Prop :=
  d.places.length = 250 ∧ ls.length ≤ 90 ∧ (∀ l ∈ ls, Fine l) ∧ (∀ i l, ls[i]? = some l → d.places[i]? = some (sealL i l)) ∧ (∃ p, d.places[ls.length]? = some p ∧ Torn ls.length p) ∧ ∀ i, ls.length < i → i < 250 → d.places[i]? = some []
theorem seal_len {k : Nat} {l : Vers} (hk : k < 100) (h2 : Two l) (hl : l.length ≤ 1000) : (sealL k l).length ≤ 1000000 := by
  have h1 := join_len h2 hl k hk
  have h3 := dec_len (fnv_lt (textL k l))
  unfold sealL
  rw [List.length_append, List.length_cons]
  omega
theorem opened_good (w0 w : World) (k : Nat) (l : Vers) (L : List HProp) (hk : k < 100) (hl : Fine l) (hL : LibOk w0) (hs : S w0 w L) :
    Calls Tryz.prog 20 #[.int .i64 k, .string ⟨(sealL k l).toArray⟩] w fun r w' => ∃ v, r = .returned (.tuple #[v, .bool true]) ∧ S w0 w' (sl 51 2 v l.length (pcells l) :: L) := by
  have h1 : 1 ≤ l.length := by have := hl.1; cases l with | nil => exact absurd rfl this | cons _ _ => simp
  have h2 := hl.2.1
  have h := opened_long w0 w k (sealL k l) l (num k) (Lib.decDigits (fnv (textL k l))) L hk hL hs (seal_len hk hl.two (by omega)) (cut_seal k l) h1 (by omega) hl.two
  rw [show decide (sealL k l = sealL k l) = true from decide_eq_true rfl] at h
  exact h
theorem opened_torn (w0 w : World) (k : Nat) (p : List UInt8) (L : List HProp) (hp : Torn k p) (hL : LibOk w0) (hs : S w0 w L) :
    Calls Tryz.prog 20 #[.int .i64 k, .string ⟨p.toArray⟩] w fun r w' => ∃ v, r = .returned (.tuple #[v, .bool false]) ∧ S w0 w' L := by
  rcases hp with rfl | ⟨hk, l, hsf, h2, hl, hpre, hne⟩
  · exact (opened_short w0 w k [] L hL hs (by simp) (.inl (by simp [cut]))).mono fun r w' ⟨h1, h2⟩ => ⟨_, h1, h2⟩
  · have hlen : p.length ≤ 1000000 := Nat.le_trans hpre.length_le (seal_len hk h2 (by omega))
    rcases torn_cases hsf hpre hne with hc | ⟨m, x, y, hm1, hm2, hc, hno⟩
    · exact (opened_short w0 w k p L hL hs hlen hc).mono fun r w' ⟨h1, h2⟩ => ⟨_, h1, h2⟩
    · have h := opened_long w0 w k p (l.take m) x y L hk hL hs hlen hc (by rw [List.length_take]; omega) (by rw [List.length_take]; omega) (fun q hq => h2 q (List.mem_of_mem_take hq))
      rw [show decide (sealL k (l.take m) = p) = false from decide_eq_false hno] at h
      exact h.mono fun r w' ⟨v, h1, h2⟩ => ⟨v, h1, h2.tail⟩

set_option maxRecDepth 40000 in
/-- An engine over a list of the call's own. -/
theorem eover_own (w0 w : World) (at_ : Int) (v : Value) (l : Vers) (L : List HProp) (hs : S w0 w (sl 51 2 v l.length (pcells l) :: L)) (hk : instOk 0 at_ l = true) (hl : l.length ≤ 1000) :
    Calls Tryz.prog 22 #[.int .i64 at_, v] w fun r w' => ∃ b, r = .returned (.tuple #[.pointer (some ⟨b, 0, none⟩), .nilIface]) ∧ S w0 w' (engP b [] (Eng.over at_ l) :: sl 51 2 v l.length (pcells l) :: L) := by
  have hat := instOk_at hk
  obtain ⟨a, c, rfl, _, _, _⟩ := hs.sl_val
  have HS := hid hs; have he := hid (instErr_nil hk)
  have hb0 : (at_ == 0) = false := by simp; omega
  clear hs hk hat
  go_enter Tryz.func22, Tryz.ntmps22
  go_wp2_with fail
  with_reducible refine (new_any w0 w _ HS.out).mono ?_
  rintro r w1 ⟨rfl, hs1⟩
  generalize w.heap.size + 1 = b at *
  obtain ⟨k, hs2⟩ := hs1.eng_open
  have hcall := install2 w0 w1 b 0 Eng.zero.V Eng.zero.last at_ (.slice a l.length c) l _ 0 hs2 (RdK.own.mono fun W h => h.tail.tail) (fun vs hv => by rw [(List.mem_replicate.1 hv).2]; exact Nat.le_refl _) (by omega)
  have HC := hid hcall
  clear hs1 hs2 hcall HS
  go_wp2_with fail
  with_reducible refine HC.out.mono ?_
  rintro r w2 ⟨u, rfl, hs3⟩
  rw [show instErr Eng.zero.last at_ l = .nil from he.out] at hs3
  obtain ⟨rfl, hs4⟩ := S.pur_elim hs3
  have H4 := hid (eng_over at_ l hs4)
  clear hs3 hs4 HC
  go_wp2_with fail
  go_ret2
  exact ⟨_, rfl, H4.out⟩
/-- A base in memory. -/
def bseB (b d : Nat) (e : Value) (used : Nat) (down : Bool) (torn : Int) : HProp := blk b 58 [.pointer (some ⟨d, 0, none⟩), e, .int .i64 used, .bool down, .int .i64 torn]
theorem rowsD_le (ls : List Vers) (h : ∀ l ∈ ls, l.length ≤ 10) : ∀ vs ∈ rowsD ls, vs.length ≤ 10 * ls.length := by
  have key : ∀ (n : Nat) (ls : List Vers), ls.length = n → (∀ l ∈ ls, l.length ≤ 10) → ∀ vs ∈ rowsD ls, vs.length ≤ 10 * n := by
    intro n
    induction n with
    | zero =>
      intro ls hn _ vs hv
      rw [List.length_eq_zero_iff.1 hn] at hv
      rw [(List.mem_replicate.1 hv).2]; simp
    | succ n ih =>
      intro ls hn hl
      obtain ⟨ms, l, rfl⟩ : ∃ ms l, ls = ms ++ [l] := ⟨ls.dropLast, ls.getLast (by intro h; rw [h] at hn; simp at hn), (List.dropLast_concat_getLast _).symm⟩
      have hms : ms.length = n := by simpa using hn
      have h0 := ih ms hms (fun x hx => hl x (by simp [hx]))
      have hll := hl l (by simp)
      rw [rowsD_snoc, hms]
      have hput : ∀ (l : Vers) (V : List Vers) (N : Nat) (at_ : Int), (∀ vs ∈ V, vs.length ≤ N) → ∀ vs ∈ putAll at_ V l, vs.length ≤ N + l.length := by
        intro l
        induction l with
        | nil => intro V N at_ h vs hv; simpa using h vs hv
        | cons p l ihl =>
          intro V N at_ h vs hv
          have := ihl (put1 at_ V p) (N + 1) at_ (fun ws hw => by
            unfold put1 at hw
            rcases List.mem_or_eq_of_mem_set hw with hw | rfl
            · have := h ws hw; omega
            · have hold : ((V[p.1.toNat]?).getD []).length ≤ N := by
                cases hvk : V[p.1.toNat]? with
                | none => simp
                | some vs => exact h vs (List.mem_of_getElem? hvk)
              split
              · rw [List.length_append, List.length_dropLast]; simp; omega
              · rw [List.length_append]; simp; omega) vs hv
          rw [List.length_cons]; omega
      intro vs hv
      have := hput l (rowsD ms) (10 * n) _ h0 vs hv
      omega
  exact key _ ls rfl h
end Go.Proofs.YtaghjcdlghcjeaaGreatDoor
/- What lies on a disk when a place is written, or torn. No walk in sight. -/
namespace Go.Proofs.YtaghjcdlghcjeaaGreatDoor
open Go Go.RowKit Go.Sep

theorem Good.fine {l : Vers} (h : Good l) (h0 : l ≠ []) (hl : l.length ≤ 10) : Fine l := ⟨h0, hl, fun p hp => by have := h.2 p hp; omega⟩
theorem DiskOk.start : DiskOk Dsk.zero [] := by
  have hz : ∀ i, i < 250 → Dsk.zero.places[i]? = some [] := fun i hi => by
    show (List.replicate 250 ([] : List UInt8))[i]? = _
    rw [List.getElem?_replicate, if_pos hi]
  exact ⟨List.length_replicate .., by simp, by simp, by simp, ⟨[], hz 0 (by omega), .inl rfl⟩, fun i _ hi => hz i hi⟩
theorem DiskOk.setCut {d : Dsk} {ls : List Vers} (h : DiskOk d ls) (n : Int) : DiskOk (d.setCut n) ls := h
theorem DiskOk.put {d : Dsk} {ls : List Vers} {l : Vers} (h : DiskOk d ls) (hl : Fine l) (hn : ls.length < 90) : DiskOk (d.put ls.length (sealL ls.length l)) (ls ++ [l]) := by
  obtain ⟨h1, h2, h3, h4, h5, h6⟩ := h
  refine ⟨by unfold Dsk.put; rw [List.length_set]; exact h1, by rw [List.length_append]; simp; omega, fun x hx => ?_, fun i x hx => ?_, ⟨[], ?_, .inl rfl⟩, fun i hi hi2 => ?_⟩
  · rw [List.mem_append, List.mem_singleton] at hx
    rcases hx with hx | rfl
    · exact h3 x hx
    · exact hl
  · unfold Dsk.put
    rcases Nat.lt_or_ge i ls.length with hi | hi
    · rw [List.getElem?_append_left hi] at hx
      rw [List.getElem?_set_ne (by omega)]
      exact h4 i x hx
    · have hi2 := (List.getElem?_eq_some_iff.1 hx).1
      rw [List.length_append, List.length_singleton] at hi2
      obtain rfl : i = ls.length := by omega
      rw [List.getElem?_append_right (Nat.le_refl _), Nat.sub_self, List.getElem?_cons_zero, Option.some.injEq] at hx
      subst hx
      rw [List.getElem?_set_self (by omega)]
  · unfold Dsk.put
    rw [List.length_append, List.length_singleton, List.getElem?_set_ne (by omega)]
    exact h6 _ (by omega) (by omega)
  · rw [List.length_append, List.length_singleton] at hi
    unfold Dsk.put
    rw [List.getElem?_set_ne (by omega)]
    exact h6 i (by omega) hi2
theorem DiskOk.tear {d : Dsk} {ls : List Vers} {l : Vers} (h : DiskOk d ls) (hl : Fine l) (hs : Safe ls.length l) (torn : Int) : DiskOk (d.tear ls.length (sealL ls.length l) torn) ls := by
  unfold Dsk.tear
  split
  · obtain ⟨h1, h2, h3, h4, _, h6⟩ := h
    refine ⟨by rw [List.length_set]; exact h1, h2, h3, fun i x hx => ?_, ⟨_, List.getElem?_set_self (by omega), .inr ⟨by omega, l, hs, hl.two, hl.2.1, List.take_prefix .., fun he => ?_⟩⟩, fun i hi hi2 => ?_⟩
    · have hi := (List.getElem?_eq_some_iff.1 hx).1
      show (d.places.set _ _)[i]? = _
      rw [List.getElem?_set_ne (by omega)]
      exact h4 i x hx
    · have h7 := congrArg List.length he
      have h8 : 1 ≤ (sealL ls.length l).length := by unfold sealL; rw [List.length_append, List.length_cons]; omega
      rw [List.length_take] at h7
      omega
    · show (d.places.set _ _)[i]? = _
      rw [List.getElem?_set_ne (by omega)]
      exact h6 i hi hi2
  · exact h
end Go.Proofs.YtaghjcdlghcjeaaGreatDoor
/- All of an engine over what each key has is just that. No walk in sight. -/
namespace Go.Proofs.YtaghjcdlghcjeaaGreatDoor
open Go Go.RowKit Go.Sep

theorem wantL_get : ∀ (l : Vers) (D : List (Int × Int)) (k : Int), (l.map (·.1)).Nodup → mget (wantL D l) k = (mget l k).or (mget D k)
  | [], D, k, _ => rfl
  | p :: l, D, k, h => by
    rw [List.map_cons, List.nodup_cons] at h
    show mget (wantL (mput D p.1 p.2) l) k = _
    rw [wantL_get l _ k h.2, mget_put, mget_cons]
    by_cases hk : p.1 = k
    · subst hk
      rw [if_pos rfl, if_pos rfl, mget_none.2 h.1]; rfl
    · rw [if_neg (fun e => hk e.symm), if_neg hk]
theorem listD_get (D : List (Int × Int)) (k : Int) (hk : 0 ≤ k ∧ k < 10) : mget (listD D) k = mget D k := by
  cases hg : mget D k with
  | some v => exact mget_mem (listD_keys D) (listD_mem.2 ⟨hk, hg⟩)
  | none =>
    rw [mget_none]
    intro hm
    obtain ⟨p, hp, rfl⟩ := List.mem_map.1 hm
    rw [(listD_mem.1 hp).2] at hg
    cases hg
theorem listD_again (D : List (Int × Int)) : listD (wantL [] (listD D)) = listD D := by
  refine allL_map fun k hk => ?_
  rw [wantL_get _ _ _ (listD_keys D), listD_get D k (by omega), mget_nil]
  cases mget D (k : Int) <;> rfl
theorem over_all {ls : List Vers} (hf : ∀ l ∈ ls, Fine l) (hk : instOk 0 (ls.length : Int) (listD (wantD ls)) = true) : (Eng.over ls.length (listD (wantD ls))).allV = listD (wantD ls) := by
  have ht := told_all _ ls rfl hf
  have h1 : Told ls.length (putAll (ls.length : Int) (List.replicate 10 []) (listD (wantD ls))) (wantL [] (listD (wantD ls))) :=
    Told.putAll _ (Told.start.later (Nat.zero_le _)) (fun p hp => ht.2.2.2.1 p (mget_some (listD_mem.1 hp).2))
  have h2 := h1.all
  rw [listD_again] at h2
  unfold Eng.allV Eng.over
  rw [if_pos hk]
  exact h2
end Go.Proofs.YtaghjcdlghcjeaaGreatDoor
/- What Commit answers is what Ready answers; own writes of four keys and ninety values, whatever is asked. No walk in sight. -/
namespace Go.Proofs.YtaghjcdlghcjeaaGreatDoor
open Go Go.RowKit Go.Sep
section
variable {e e' : Eng} {i j : Nat} {N : Nat} {T U : List Task}

theorem commit_ans (e : Eng) (n : Int) : (e.commit n).2 = e.ready n := by
  unfold Eng.commit
  by_cases h : e.ready n ≠ 0
  · rw [if_pos h]
  · rw [if_neg h]
    exact (Classical.not_not.1 h).symm
def Sm (p : Int × Int) : Prop := (0 ≤ p.1 ∧ p.1 < 4) ∧ (0 ≤ p.2 ∧ p.2 ≤ 90)
/-- A transaction's own writes, and what it waits to write. -/
def TxSm (x : Tx) : Prop := (∀ p ∈ x.writes, Sm p) ∧ Sm x.want
def Small (e : Eng) : Prop := ∀ j, j < e.txs.length → TxSm (e.tx j)
theorem Small.start : Small Eng.zero := fun j h => by simp [Eng.zero] at h
theorem Small.same (h : Small e) (ht : e'.txs = e.txs) : Small e' := by
  intro j hj
  unfold Eng.tx
  rw [ht] at hj ⊢
  exact h j hj
theorem Small.upd {f : Tx → Tx} (h : Small e) (hf : i < e.txs.length → TxSm (f (e.tx i))) : Small (e.upd i f) := by
  intro j hj
  rw [Eng.upd_len] at hj
  rw [Eng.upd_tx]
  split
  · rename_i hc
    obtain ⟨rfl, h2⟩ := hc
    exact hf h2
  · exact h j hj
theorem Small.note (h : Small e) (a b : Nat) : Small (e.note a b) := by
  intro j hj
  rw [Eng.note_len] at hj
  unfold TxSm
  rw [Eng.note_keep (·.writes) (fun _ _ => rfl) (fun _ _ => rfl), Eng.note_keep (·.want) (fun _ _ => rfl) (fun _ _ => rfl)]
  exact h j hj
theorem Small.left (h : Small e) (i : Nat) (why : Int) : Small (e.left i why) := by
  intro j hj
  rw [left_len] at hj
  rw [left_tx]
  split
  · exact h j hj
  · exact h j hj
theorem mput_sm {D : List (Int × Int)} (h : ∀ p ∈ D, Sm p) {k v : Int} (hw : Sm (k, v)) : ∀ p ∈ mput D k v, Sm p := by
  intro p hp
  unfold mput at hp
  split at hp
  · obtain ⟨q, hq, rfl⟩ := List.mem_map.1 hp
    split
    · exact hw
    · exact h q hq
  · rw [List.mem_append, List.mem_singleton] at hp
    rcases hp with hp | rfl
    · exact h p hp
    · exact hw
/-- .. and what is under way. -/
def SmallT (e : Eng) (T : List Task) : Prop := Small e ∧ ∀ i w, Task.put i w ∈ T → Sm w
theorem small_rule : Rule SmallT where
  hand N e w T h p := by
    have h1 := h.hand_lt.1
    refine ⟨p.1.upd fun hi => p.1 _ hi, fun i v hm => ?_⟩
    rw [List.mem_cons] at hm
    rcases hm with hm | hm
    · simp only [Task.put.injEq] at hm
      rw [hm.2]; exact (p.1 _ h1).2
    · exact p.2 i v (List.mem_cons_of_mem _ hm)
  late N e i w T h hl p := ⟨p.1.left i 10, fun j v hm => by
    rw [List.mem_append] at hm
    rcases hm with hm | hm
    · obtain ⟨_, _, hx⟩ := List.mem_map.1 hm; cases hx
    · exact p.2 j v (List.mem_cons_of_mem _ hm)⟩
  put N e i w T h hl h2 p := ⟨p.1.upd fun hi => ⟨mput_sm (p.1 _ hi).1 (p.2 i w (List.mem_cons_self ..)), (p.1 _ hi).2⟩, fun j v hm => p.2 j v (List.mem_cons_of_mem _ hm)⟩
  puts N e i w T h hl h2 p := ⟨p.1.upd fun hi => ⟨mput_sm (p.1 _ hi).1 (p.2 i w (List.mem_cons_self ..)), (p.1 _ hi).2⟩, fun j v hm => by
    rw [List.mem_cons] at hm
    rcases hm with hm | hm
    · cases hm
    · exact p.2 j v (List.mem_cons_of_mem _ hm)⟩
  asked N e i key T h p := ⟨p.1, fun j v hm => p.2 j v (List.mem_cons_of_mem _ hm)⟩
  skip N e i j key l T h hs p := ⟨p.1, fun k v hm => by
    rw [List.mem_cons] at hm
    rcases hm with hm | hm
    · cases hm
    · exact p.2 k v (List.mem_cons_of_mem _ hm)⟩
  note N e i j key l T h hs hb p := ⟨p.1.note _ _, fun k v hm => by
    rw [List.mem_cons] at hm
    rcases hm with hm | hm
    · cases hm
    · exact p.2 k v (List.mem_cons_of_mem _ hm)⟩
  wrong N e i j key l T h hs hb p := ⟨(p.1.note _ _).left i 13, fun k v hm => by
    rw [List.mem_append] at hm
    rcases hm with hm | hm
    · obtain ⟨_, _, hx⟩ := List.mem_map.1 hm; cases hx
    · exact p.2 k v (List.mem_cons_of_mem _ hm)⟩
theorem SmallT.of (h : Small e) : SmallT e [] := ⟨h, by simp⟩
theorem Small.goes (p : Small e) (h : OkT N e []) (hi : i < e.txs.length) (ha : (e.tx i).alive = true) (why : Int) : Small (e.goes i why) :=
  (small_rule.goes h hi ha why ⟨p.left i why, fun j v hm => by
    obtain ⟨_, _, hx⟩ := List.mem_map.1 hm; cases hx⟩).1
theorem Small.begun (p : Small e) (level : Int) : Small (e.begin_ level).1 := by
  unfold Eng.begin_
  split
  · exact p
  split
  · exact p
  split
  · exact p
  intro j hj
  simp only [List.length_append, List.length_singleton] at hj
  unfold Eng.tx
  simp only
  by_cases hlt : j < e.txs.length
  · rw [List.getElem?_append_left hlt]
    exact p j hlt
  · obtain rfl : j = e.txs.length := by omega
    simp [Tx.zero, TxSm, Sm]
theorem Small.red (p : Small e) (h : OkT N e []) (n key : Int) : Small (e.read n key).1 := by
  have hc := read_case e n key
  generalize e.read n key = r at *
  cases hc with
  | err => exact p
  | own => exact p
  | plain i hn hi => exact p.upd fun hi => p _ hi
  | seen i hn hi => exact sees_keep (P := Small) (fun e a b h => h.note a b) (p.upd fun hi => p _ hi)
  | gone i hn hi hs hv hk hl hr =>
    have p1 : Small (e.noted i key) := p.upd fun hi => p _ hi
    have p2 := sees_keep (P := Small) (fun e a b h => h.note a b) (i := i) (key := key) p1
    have h1 := h.noted1 hi key
    have hi1 : i < (e.noted i key).txs.length := by unfold Eng.noted; rw [Eng.upd_len]; exact hi
    obtain ⟨g1, g2, g3, _⟩ := sees_ok h1 hi1 key
    have hs1 : ((e.noted i key).tx i).state = 0 := (Eng.upd_keep (·.state) (fun x => { x with reads := x.reads ++ [(key, (mget e.wr (((readV (e.row key) (e.asOf i)).map (·.1)).getD 0)).getD 0)] }) (fun _ => rfl) i).trans hs
    exact p2.goes g1 (by omega) (state_alive (by rw [g3, hs1])) 13
theorem Small.wrote (p : Small e) (h : OkT N e []) (n key value : Int) (hw : Sm (key, value)) : Small (e.write n key value).1 := by
  have hc := write_case h n key value
  generalize e.write n key value = r at *
  have hup : ∀ i, Small (e.upd i fun x => { x with want := (key, value) }) := fun i => p.upd fun hi => ⟨(p _ hi).1, hw⟩
  cases hc with
  | err => exact p
  | cycle i hn hi hs hk hv =>
    have p1 : Small ((e.wanting i (key, value)).table e.t) := Small.same (hup i) rfl
    have h1 := cycle_ok h hi hk hv
    exact p1.goes h1 (by show i < (e.upd i _).txs.length; rw [Eng.upd_len]; exact hi) (state_alive ((Eng.upd_keep (·.state) (fun x => { x with want := (key, value) }) (fun _ => rfl) i).trans hs)) 11
  | waits i a hn hi hs hk hv hh ha =>
    have p1 : Small ((e.wanting i (key, value)).table (waitT e.t ((i : Int) + 1) key)) := Small.same (hup i) rfl
    exact p1.upd fun hi1 => p1 i hi1
  | puts i t' hn hi hs hk hv ht r hr =>
    have p1 : Small ((e.wanting i (key, value)).table t') := Small.same (hup i) rfl
    obtain ⟨g1, g2, g3⟩ := put_ok h hi hs hk hv ht
    exact (small_rule.putsE g1 ⟨p1, fun j v hm => by
      rw [List.mem_singleton] at hm
      simp only [Task.put.injEq] at hm
      rw [hm.2]; exact hw⟩).1
theorem Small.over2 (p : Small e) : Small (e.over2 i) := by
  have h1 : Small (e.upd i fun x => { x with state := 2, ended := e.count + 1 }) := p.upd fun hi => p i hi
  refine h1.same ?_
  show ((e.told i).upd i (fun x => { x with state := 2, ended := e.count + 1 })).txs = _
  unfold Eng.upd
  rw [(told_txs e i).1]
theorem Small.committed (p : Small e) (h : OkT N e []) (n : Int) : Small (e.commit n).1 := by
  by_cases h0 : e.ready n = 0
  · obtain ⟨i, rfl, hi, hs⟩ := ready_at h0
    rw [commit_eq e i h0]
    exact (small_rule.frees h hi (state_alive hs) ⟨p.over2.same rfl, fun j v hm => by obtain ⟨_, _, hx⟩ := List.mem_map.1 hm; cases hx⟩).1
  · unfold Eng.commit
    rw [if_pos h0]
    simp only
    split
    · rename_i h13
      obtain ⟨i, rfl, hi, hs⟩ := ready_13 h13
      rw [show ((i : Int) + 1).toNat - 1 = i by omega]
      exact p.goes h hi (state_alive hs) 13
    · exact p
theorem Small.aborted (p : Small e) (h : OkT N e []) (n : Int) : Small (e.abort n).1 := by
  unfold Eng.abort
  split
  · exact p
  · rename_i hx
    obtain ⟨i, rfl, hi, _⟩ := err_num (Decidable.not_not.1 hx)
    rw [show ((i : Int) + 1).toNat - 1 = i by omega]
    split
    · exact p
    · rename_i hs
      exact p.goes h hi (by simp only [Tx.alive, decide_eq_true_eq]; omega) 0
end
end Go.Proofs.YtaghjcdlghcjeaaGreatDoor
/- What a transaction wrote is a fine commit, whatever is asked. No walk in sight. -/
namespace Go.Proofs.YtaghjcdlghcjeaaGreatDoor
open Go Go.RowKit Go.Sep
section
variable {e : Eng} {N : Nat}

theorem written_mem {x : Tx} {p : Int × Int} (h : p ∈ x.written) : mget x.writes p.1 = some p.2 := by
  unfold Tx.written at h
  obtain ⟨k, hk, rfl⟩ := List.mem_map.1 h
  rw [sortI_mem] at hk
  cases hg : mget x.writes k with
  | none => exact absurd hk (mget_none.1 hg)
  | some v => rfl
theorem written_up {x : Tx} (h : (x.writes.map (·.1)).Nodup) : x.written.Pairwise fun p q => p.1 < q.1 := by
  unfold Tx.written
  rw [List.pairwise_map]
  have h1 := sortI_sorted (x.writes.map (·.1))
  have h2 := (sortI_perm (x.writes.map (·.1))).nodup_iff.2 h
  exact (h1.and h2).imp fun ⟨a, b⟩ => by simp only; omega
theorem writes_cases (e : Eng) (n : Int) : (e.writes n).2 = e.err n false ∧ ((e.writes n).1 = [] ∨ ∃ i : Nat, n = (i : Int) + 1 ∧ i < e.txs.length ∧ (e.writes n).1 = (e.tx i).written) := by
  unfold Eng.writes
  by_cases h : e.err n false ≠ 0
  · rw [if_pos h]; exact ⟨rfl, .inl rfl⟩
  · rw [if_neg h]
    have h0 := Classical.not_not.1 h
    refine ⟨h0.symm, .inr ?_⟩
    unfold Eng.err at h0
    split at h0
    · exact absurd h0 (by decide)
    · rename_i hc
      exact ⟨n.toNat - 1, by omega, by omega, rfl⟩
theorem Small.good (p : Small e) (h : OkT N e []) (n : Int) : Good (e.writes n).1 := by
  rcases (writes_cases e n).2 with h0 | ⟨i, rfl, hi, h1⟩
  · rw [h0]; exact ⟨List.Pairwise.nil, by simp⟩
  · rw [h1]
    exact ⟨written_up (h.at hi).keys, fun q hq => (p i hi).1 q (mget_some (written_mem hq))⟩
theorem keys_few : ∀ (l : Vers) (a : Int), l.Pairwise (fun p q => p.1 < q.1) → (∀ p ∈ l, a ≤ p.1 ∧ p.1 < 4) → a ≤ 4 → (l.length : Int) ≤ 4 - a
  | [], a, _, _, h => by simpa using h
  | p :: l, a, hp, hb, h => by
    rw [List.pairwise_cons] at hp
    have h1 := hb p (List.mem_cons_self ..)
    have := keys_few l (p.1 + 1) hp.2 (fun q hq => ⟨by have := hp.1 q hq; omega, (hb q (List.mem_cons_of_mem _ hq)).2⟩) (by omega)
    rw [List.length_cons]; omega
theorem Good.few {l : Vers} (h : Good l) : l.length ≤ 4 := by
  have := keys_few l 0 h.1 (fun p hp => (h.2 p hp).1) (by omega)
  omega
end
end Go.Proofs.YtaghjcdlghcjeaaGreatDoor
/- base.Open: the walk. -/
namespace Go.Proofs.YtaghjcdlghcjeaaGreatDoor
open Go Go.RowKit Go.Sep

theorem inst_ok {ls : List Vers} {j : Nat} {l : Vers} (hj : ls[j]? = some l) (hf : ∀ l ∈ ls, Fine l) (hn : ls.length ≤ 90) : instOk (j : Int) ((j : Int) + 1) l = true ∧ instErr (j : Int) ((j : Int) + 1) l = .nil := by
  have hl := (List.getElem?_eq_some_iff.1 hj).1
  have hb := fine_bad (hf l (List.mem_of_getElem? hj)).2.2 0
  have hc : (j : Int) < (j : Int) + 1 ∧ (j : Int) + 1 ≤ 1099511627776 := by omega
  constructor
  · unfold instOk; rw [hb, decide_eq_true hc]; rfl
  · unfold instErr; rw [if_pos hc, hb]
theorem over_ok {ls : List Vers} (h0 : ls ≠ []) (hf : ∀ l ∈ ls, Fine l) (hn : ls.length ≤ 90) : instOk 0 (ls.length : Int) (listD (wantD ls)) = true := by
  have ht := told_all _ ls rfl hf
  have hb := fine_bad (l := listD (wantD ls)) (fun p hp => by
    have h1 := (listD_mem.1 hp).2
    exact ht.2.2.2.1 p (mget_some h1)) 0
  have h1 : 0 < ls.length := List.length_pos_iff.2 h0
  have hc : (0 : Int) < (ls.length : Int) ∧ (ls.length : Int) ≤ 1099511627776 := by omega
  unfold instOk; rw [hb, decide_eq_true hc]; rfl
theorem over_D (w0 w : World) (ls : List Vers) (v : Value) (L : List HProp) (hf : ∀ l ∈ ls, Fine l) (hn : ls.length ≤ 90) (hs : S w0 w (sl 51 2 v (listD (wantD ls)).length (pcells (listD (wantD ls))) :: L)) :
    Calls Tryz.prog 22 #[.int .i64 ls.length, v] w fun r w' => ∃ b, r = .returned (.tuple #[.pointer (some ⟨b, 0, none⟩), .nilIface]) ∧ S w0 w' (engP b [] (Eng.over ls.length (listD (wantD ls))) :: L) := by
  by_cases h0 : ls = []
  · subst h0
    have hz : listD (wantD []) = [] := by decide
    rw [hz] at hs ⊢
    obtain ⟨a, c, rfl, _, _, _⟩ := hs.sl_val
    exact eover_zero w0 w a c L hs.tail
  · have hle : (listD (wantD ls)).length ≤ 1000 := by have := allL_le (fun k => (mget (wantD ls) k).map fun v => ((0 : Int), v)) 10; unfold listD; omega
    exact (eover_own w0 w _ v _ L hs (over_ok h0 hf hn) hle).mono fun r w' ⟨b, h1, h2⟩ => ⟨b, h1, h2.swap.tail⟩
set_option maxRecDepth 40000 in
set_option maxHeartbeats 8000000 in
theorem open_any (w0 w : World) (d : Nat) (D : Dsk) (ls : List Vers) (L : List HProp) (hL : LibOk w0) (hD : DiskOk D ls) (hs : S w0 w (dskB d D :: L)) :
    Calls Tryz.prog 5 #[.pointer (some ⟨d, 0, none⟩)] w fun r w' => ∃ b e, r = .returned (.tuple #[.pointer (some ⟨b, 0, none⟩), .nilIface]) ∧
      S w0 w' (bseB b d (.pointer (some ⟨e, 0, none⟩)) ls.length false (-1) :: engP e [] (Eng.over ls.length (listD (wantD ls))) :: dskB d D :: L) := by
  obtain ⟨hlen, hu, hf, hpl, ⟨tp, htp, htorn⟩, hemp⟩ := hD
  obtain ⟨B, hB⟩ : ∃ B, w.heap.size = B := ⟨_, rfl⟩
  have hs1 := hs.alloc #[.pointer (some ⟨d, 0, none⟩), .pointer none, .int .i64 0, .bool false, .int .i64 (-1)] 58
  have hs2 := S.store_new2 (T := 62) (T' := 84) (hs1.alloc #[.slice none 0 0, .slice none 0 0, .slice none 0 0, .slice none 0 0, .slice none 0 0, .slice none 0 0, .slice none 0 0, .slice none 0 0, .slice none 0 0, .slice none 0 0, .int .i64 0] 62)
  rw [World.size_alloc, hB] at hs2
  have hs3 : S w0 ((w.alloc (.cells #[.pointer (some ⟨d, 0, none⟩), .pointer none, .int .i64 0, .bool false, .int .i64 (-1)] 58)).alloc (.cells #[.slice none 0 0, .slice none 0 0, .slice none 0 0, .slice none 0 0, .slice none 0 0, .slice none 0 0, .slice none 0 0, .slice none 0 0, .slice none 0 0, .slice none 0 0, .int .i64 0] 62))
    (bseB B d (.pointer none) 0 false (-1) :: storeP 84 (B + 1) 0 (rowsD []) 0 :: dskB d D :: L) := hs2.swap
  -- what the region that reads and opens a place wants
  have hq : ∀ W (j : Nat) (V : List Vers) (la : Int), S w0 W (bseB B d (.pointer none) j false (-1) :: storeP 84 (B + 1) 0 V la :: dskB d D :: L) → W.cell? ⟨B, 2, none⟩ = some (.int .i64 j) ∧ W.frozen? ⟨B, 2, none⟩ = false ∧ ∀ x, D.places[j]? = some x → W.cell? ⟨d, j, none⟩ = some (.string ⟨x.toArray⟩) := fun W j V la h => ⟨h.blk_cell 2 rfl, h.blk_free 2, fun x hx => h.tail.tail.dsk_at hx⟩
  have hset : ∀ W (j : Nat) (V : List Vers) (la : Int), S w0 W (bseB B d (.pointer none) j false (-1) :: storeP 84 (B + 1) 0 V la :: dskB d D :: L) → S w0 (W.setCell ⟨B, 2, none⟩ (.int .i64 ((j + 1 : Nat) : Int))) (bseB B d (.pointer none) ((j + 1 : Nat) : Nat) false (-1) :: storeP 84 (B + 1) 0 V la :: dskB d D :: L) := fun W j V la h => h.blk_set 2 (by simp) (.int .i64 ((j + 1 : Nat) : Int))
  have H3 := hid hs3; have HQ := hid hq; have HSET := hid hset; have HF := hid hf; have HPL := hid hpl; have HTP := hid htp; have HTORN := hid htorn; have HLB := hid hL
  clear hL hs hs1 hs2 hs3 hq hset hf hpl htp htorn hemp hlen
  go_enter Tryz.func5, Tryz.ntmps5
  go_wp2_with fail
  go_loopw [6, 7] (fun lv ok wr => ∃ j : Nat, j ≤ ls.length ∧ S w0 wr (bseB B d (.pointer none) j false (-1) :: storeP 84 (B + 1) 0 (rowsD (ls.take j)) j :: dskB d D :: L)) (fun _ _ wr => 300 - (intOf ((wr.cell? ⟨B, 2, none⟩).getD .nilIface)).toNat)
  case atStart => exact ⟨0, Nat.zero_le _, H3.out⟩
  case round =>
    rename World => wr
    obtain ⟨j, hj, hsr⟩ := hrel
    clear H3
    obtain ⟨c2, f2, hpc⟩ := HQ.out _ j _ _ hsr
    have hj250 : (j : Int) < 250 := by omega
    by_cases hlt : j < ls.length
    · have hp : ls[j]? = some ls[j] := by simp [hlt]
      generalize ls[j] = l at hp
      have hx := hpc _ (HPL.out j l hp)
      have hfl := HF.out l (List.mem_of_getElem? hp)
      have hop := fun W M h => opened_good w0 W j l M (by omega) hfl HLB.out h
      have q0 := And.intro (HQ.out _ j _ _ hsr.drew).1 ((HQ.out _ j _ _ hsr.drew).2.2 _ (HPL.out j l hp))
      have hin := inst_ok hp HF.out hu
      have htk : ls.take (j + 1) = ls.take j ++ [l] := take_succ_get hp
      have hlj : (ls.take j).length = j := by rw [List.length_take]; omega
      have hrl : ∀ vs ∈ rowsD (ls.take j), vs.length ≤ 10 * j := fun vs hv => by
        have := rowsD_le (ls.take j) (fun x hx => (HF.out x (List.mem_of_mem_take hx)).2.1) vs hv
        rw [hlj] at this; exact this
      have hrow : rowsD (ls.take (j + 1)) = putAll ((j : Int) + 1) (rowsD (ls.take j)) l := by rw [htk, rowsD_snoc, hlj]
      have hl10 := hfl.2.1
      have hll : 0 ≤ l.length := Nat.zero_le _
      have HS0 := hid hsr; have HOP := hid hop; have HX := hid (HPL.out j l hp); have HIN := hid hin; have HROW := hid hrow; have HRL := hid hrl
      clear hsr hop hpc hx hfl hp hin htk hlj hrl hrow
      generalize rowsD (ls.take j) = V at *
      go_upto_region 6 with fail
      go_region_held_law (fun w' => w'.cell? ⟨B, 2, none⟩ = some (.int .i64 j) ∧ w'.cell? ⟨d, j, none⟩ = some (.string ⟨(sealL j l).toArray⟩)) (first | (with_reducible assumption) | (with_reducible exact q0) | (with_reducible exact q1))
        ((go_at_call 20; with_reducible refine (HOP.out _ _ HS0.out.drew).mono ?_; rintro r w2 ⟨v, rfl, hs2⟩; have q1 := And.intro (HQ.out _ j _ _ hs2.tail).1 ((HQ.out _ j _ _ hs2.tail).2.2 _ HX.out); have H2 := hid hs2; clear hs2))
      have h3 : S w0 _ (storeP 84 (B + 1) 0 V j :: sl 51 2 v l.length (pcells l) :: bseB B d (.pointer none) j false (-1) :: dskB d D :: L) := H2.out.conv (by simp only [all]; ac_rfl)
      have hc := install2 w0 _ (B + 1) 0 V j ((j : Int) + 1) v l _ (10 * j) h3 RdK.own HRL.out (by omega)
      rw [HIN.out.1, HIN.out.2] at hc
      simp only [↓reduceIte] at hc
      obtain ⟨d2, g2, _⟩ := HQ.out _ j V j H2.out.tail
      have HC := hid hc; have HC2 := hid c2
      clear h3 hc c2 f2
      go_wp2_with (go_at_call 21; with_reducible refine HC.out.mono ?_; rintro r w3 ⟨u, rfl, hs3⟩; obtain ⟨rfl, hs4⟩ := S.pur_elim hs3; have hs5 := (hs4.conv (M := sl 51 2 v l.length (pcells l) :: bseB B d (.pointer none) j false (-1) :: storeP 84 (B + 1) 0 (putAll ((j : Int) + 1) V l) ((j : Int) + 1) :: dskB d D :: L) (by simp only [all]; ac_rfl)).tail; obtain ⟨e2, k2, _⟩ := HQ.out _ j _ _ hs5; have H5 := hid (HSET.out _ _ _ _ hs5); clear hs3 hs4 hs5)
      go_roundw
      case rel => exact ⟨j + 1, by omega, by rw [HROW.out]; exact H5.out⟩
      case measure =>
        have e1 := H5.out.blk_cell 2 rfl
        rw [HC2.out]
        have e3 := e1
        simp only [Int.natCast_add, Int.natCast_one] at e3
        rw [e3]
        simp [intOf]; omega
    · obtain rfl : j = ls.length := by omega
      have hx := hpc _ HTP.out
      have hop := fun W M h => opened_torn w0 W ls.length tp M HTORN.out HLB.out h
      have q0 := And.intro (HQ.out _ ls.length _ _ hsr.drew).1 ((HQ.out _ ls.length _ _ hsr.drew).2.2 _ HTP.out)
      rw [List.take_length] at *
      have hrl := rowsD_le ls (fun x hx => (HF.out x hx).2.1)
      have htold := told_all _ ls rfl HF.out
      have HS0 := hid hsr; have HOP := hid hop; have HRL := hid hrl; have HTD := hid htold
      clear hsr hop hpc hx hrl htold
      go_upto_region 6 with fail
      go_region_held_law (fun w' => w'.cell? ⟨B, 2, none⟩ = some (.int .i64 ls.length) ∧ w'.cell? ⟨d, ls.length, none⟩ = some (.string ⟨tp.toArray⟩)) (first | (with_reducible assumption) | (with_reducible exact q0) | (with_reducible exact q1))
        ((go_at_call 20; with_reducible refine (HOP.out _ _ HS0.out.drew).mono ?_; rintro r w2 ⟨v, rfl, hs2⟩; have q1 := And.intro (HQ.out _ ls.length _ _ hs2).1 ((HQ.out _ ls.length _ _ hs2).2.2 _ HTP.out); have H2 := hid hs2; clear hs2))
      obtain ⟨d2, g2, _⟩ := HQ.out _ ls.length _ _ H2.out
      clear c2 f2 q0
      have hal : ∀ W {M : List HProp}, S w0 W (storeP 84 (B + 1) 0 (rowsD ls) ls.length :: M) → Calls Tryz.prog 23 #[.pointer (some ⟨B + 1, 0, none⟩), .int .i64 ls.length] W fun e w' => ∃ v, e = .returned v ∧ S w0 w' (sl 51 2 v (listD (wantD ls)).length (pcells (listD (wantD ls))) :: M) := fun W M h => by
        have h1 := sall_any w0 W (B + 1) (rowsD ls) ls.length ls.length M h (fun vs hv => by have := HRL.out vs hv; omega)
        rw [HTD.out.all] at h1
        exact h1.mono fun e w' ⟨v, g1, g2⟩ => ⟨v, g1, g2.swap.tail⟩
      have q2 := (HQ.out _ ls.length _ _ H2.out.drew).1
      have HAL := hid hal
      have hs5 : S w0 _ (storeP 84 (B + 1) 0 (rowsD ls) ls.length :: bseB B d (.pointer none) ls.length false (-1) :: dskB d D :: L) := H2.out.swap
      have H5 := hid hs5
      clear hal hs5 q1
      go_upto_region 9 with fail
      go_region_held_law (fun w' => w'.cell? ⟨B, 2, none⟩ = some (.int .i64 ls.length)) (first | (with_reducible assumption) | (with_reducible exact q2) | (with_reducible exact q3) | (with_reducible exact q4))
        (first
          | (go_at_call 23; with_reducible refine (HAL.out _ H5.out.drew).mono ?_; rintro r w6 ⟨v6, rfl, hs6⟩; have q3 := hs6.tail.blk_cell 2 rfl; have H6 := hid hs6; clear hs6)
          | (go_at_call 22; with_reducible refine (over_D w0 _ ls _ _ HF.out hu H6.out).mono ?_; rintro r w7 ⟨e7, rfl, hs7⟩; have q4 := hs7.tail.blk_cell 2 rfl; have H7 := hid hs7; clear hs7))
      have h8 := H7.out.swap.blk_set 1 (by simp) (.pointer (some ⟨e7, 0, none⟩))
      have k1 := H7.out.tail.blk_cell 1 rfl
      have k2 := H7.out.tail.blk_free 1
      have H8 := hid h8
      clear h8 d2 g2
      go_wp2_with fail
      go_ret2
      exact ⟨B, e7, rfl, H8.out⟩
end Go.Proofs.YtaghjcdlghcjeaaGreatDoor
/- base.Commit: the walk. Condition: the package variable errors.errorType holds the handle of the type error. -/
namespace Go.Proofs.YtaghjcdlghcjeaaGreatDoor
open Go Go.RowKit Go.Sep

/-- A base: its disk, its engine, how many commits are written, whether the power went off, how much is torn. -/
structure Bas where
  dsk : Dsk
  eng : Eng
  used : Nat
  down : Bool
  torn : Int
noncomputable def Bas.commit (B : Bas) (n : Int) : Bas × Int :=
  if (B.eng.writes n).2 ≠ 0 then (B, (B.eng.writes n).2) else
  if B.eng.ready n ≠ 0 ∨ (B.eng.writes n).1 = [] then ({ B with eng := (B.eng.commit n).1 }, B.eng.ready n) else
  if B.down = true then (B, 6) else
  if 250 ≤ B.used then (B, 4) else
  if B.dsk.off = true then ({ B with dsk := B.dsk.tear B.used (sealL B.used (B.eng.writes n).1) B.torn, down := true }, 14) else
  ({ B with dsk := B.dsk.put B.used (sealL B.used (B.eng.writes n).1), used := B.used + 1, eng := (B.eng.commit n).1 }, 0)
/-- Sealing works here. -/
def SealOk (w0 : World) (k : Nat) (l : Vers) : Prop :=
  (sealL k l).length ≤ 1000000 ∧ ∀ W (M : List HProp) v, S w0 W M → RdK w0 M v l.length (pcells l) →
    Calls Tryz.prog 37 #[.int .i64 k, v] W fun r w' => r = .returned (.string ⟨(sealL k l).toArray⟩) ∧ S w0 w' M
theorem seal_pos (k : Nat) (l : Vers) : 1 ≤ (sealL k l).length := by unfold sealL; rw [List.length_append, List.length_cons]; omega
set_option maxRecDepth 40000 in
set_option maxHeartbeats 8000000 in
theorem bcommit_any (w0 w : World) (b d eb : Nat) (bs : List Nat) (B : Bas) (n : Int) (L : List HProp) (N : Nat) (hE : ErrT w0) (hok : OkT N B.eng []) (hN : N ≤ 90000000) (hu : B.used ≤ 250)
    (hsl : (B.eng.writes n).1 ≠ [] → B.used < 250 → SealOk w0 B.used (B.eng.writes n).1)
    (hs : S w0 w (bseB b d (.pointer (some ⟨eb, 0, none⟩)) B.used B.down B.torn :: engP eb bs B.eng :: dskB d B.dsk :: L)) :
    Calls Tryz.prog 13 #[.pointer (some ⟨b, 0, none⟩), .int .i64 n] w fun r w' => r = .returned (errV (B.commit n).2) ∧
      S w0 w' (bseB b d (.pointer (some ⟨eb, 0, none⟩)) (B.commit n).1.used (B.commit n).1.down (B.commit n).1.torn :: engP eb bs (B.commit n).1.eng :: dskB d (B.commit n).1.dsk :: L) := by
  obtain ⟨D, e, used, down, torn⟩ := B
  simp only at *
  obtain ⟨B', hB'⟩ : ∃ B', B' = (Bas.mk D e used down torn).commit n := ⟨_, rfl⟩
  rw [← hB']
  unfold Bas.commit at hB'
  simp only at hB'
  have c1 := hs.blk_cell 1 rfl
  have hwr := ewrites_any w0 w eb bs e n _ N [] hok hs.swap
  have hcm := fun W (M : List HProp) (h : S w0 W (engP eb bs e :: M)) => ecommit_any w0 W eb bs e n M N hE hok hN h
  have hans := commit_ans e n
  have hrd : ∀ W (M : List HProp), S w0 W (engP eb bs e :: M) → Calls Tryz.prog 34 #[.pointer (some ⟨eb, 0, none⟩), .int .i64 n] W fun r w' => r = .returned (errV (e.ready n)) ∧ W = w' := fun W M h => by
    obtain ⟨k, h⟩ := h.eng_open
    exact ready_any w0 W eb bs k e n _ N [] hok (h.conv (M := engO eb bs k e :: storeP 84 eb 0 e.V e.last :: tabP 3 eb 11 e.t :: M) (by simp only [all]; ac_rfl))
  obtain ⟨l, hl⟩ : ∃ l, l = (e.writes n).1 := ⟨_, rfl⟩
  obtain ⟨x, hx⟩ : ∃ x, x = (e.writes n).2 := ⟨_, rfl⟩
  obtain ⟨y, hy⟩ : ∃ y, y = e.ready n := ⟨_, rfl⟩
  rw [← hl, ← hx] at hwr hB'
  rw [← hy] at hB' hans
  rw [← hl] at hsl
  have hrd2 : ∀ W (M : List HProp), S w0 W (engP eb bs e :: M) → Calls Tryz.prog 34 #[.pointer (some ⟨eb, 0, none⟩), .int .i64 n] W fun r w' => r = .returned (errV y) ∧ W = w' := by rw [hy]; exact hrd
  have hcm2 : ∀ W (M : List HProp), S w0 W (engP eb bs e :: M) → Calls Tryz.prog 35 #[.pointer (some ⟨eb, 0, none⟩), .int .i64 n] W fun r w' => r = .returned (errV y) ∧ S w0 w' (engP eb bs (e.commit n).1 :: M) := by rw [← hans]; exact hcm
  have hc0 : ∀ W (M : List HProp), S w0 W (bseB b d (.pointer (some ⟨eb, 0, none⟩)) used down torn :: M) → W.cell? ⟨b, 0, none⟩ = some (.pointer (some ⟨d, 0, none⟩)) ∧ W.cell? ⟨b, 1, none⟩ = some (.pointer (some ⟨eb, 0, none⟩)) ∧ W.cell? ⟨b, 2, none⟩ = some (.int .i64 used) ∧ W.cell? ⟨b, 3, none⟩ = some (.bool down) ∧ W.cell? ⟨b, 4, none⟩ = some (.int .i64 torn) ∧ ∀ j, W.frozen? ⟨b, j, none⟩ = false := fun W M h => ⟨h.blk_cell 0 rfl, h.blk_cell 1 rfl, h.blk_cell 2 rfl, h.blk_cell 3 rfl, h.blk_cell 4 rfl, fun j => h.blk_free j⟩
  have HW := hid hwr; have HR := hid hrd2; have HC := hid hcm2; have HB := hid hB'; have H0 := hid hc0; have HSL := hid hsl; have HS := hid hs
  clear hwr hcm hans hrd hl hx hy hrd2 hcm2 hB' hc0 hsl hs hok
  by_cases hx0 : x ≠ 0
  · rw [errV_ne hx0] at HW
    have HBE : Hid (B' = (⟨D, e, used, down, torn⟩, x)) := hid (by rw [HB.out, if_pos hx0])
    clear HB HSL HC HR
    go_enter Tryz.func13, Tryz.ntmps13
    go_wp2_with fail
    with_reducible refine HW.out.mono ?_
    rintro r w1 ⟨v, rfl, hs1⟩
    have H1 := hid hs1
    clear hs1 HW
    go_wp2_with fail
    go_ret
    rw [HBE.out]
    exact ⟨by show _ = Ending.returned (errV x); rw [errV_ne hx0]; rfl, H1.out.tail.swap⟩
  obtain rfl : x = 0 := Classical.not_not.1 hx0
  rw [errV_0] at HW
  by_cases hy0 : y ≠ 0
  · rw [errV_ne hy0] at HR
    have HBE : Hid (B' = (⟨D, (e.commit n).1, used, down, torn⟩, y)) := hid (by rw [HB.out, if_neg hx0, if_pos (.inl hy0)])
    clear HB HSL
    go_enter Tryz.func13, Tryz.ntmps13
    go_wp2_with fail
    with_reducible refine HW.out.mono ?_
    rintro r w1 ⟨v, rfl, hs1⟩
    obtain ⟨al, cl, rfl, _, _, _⟩ := hs1.sl_val
    obtain ⟨_, k1, _⟩ := H0.out _ _ hs1.tail.swap
    have H1 := hid hs1
    clear hs1 HW
    go_wp2_with (first
      | (go_at_call 34; with_reducible refine (HR.out _ _ H1.out.tail).mono ?_; rintro r w2 ⟨rfl, rfl⟩)
      | (go_at_call 35; with_reducible refine (HC.out _ _ H1.out.tail).mono ?_; rintro r w3 ⟨rfl, hs3⟩; have H3 := hid hs3; clear hs3))
    go_ret
    rw [HBE.out]
    exact ⟨rfl, H3.out.swap⟩
  obtain rfl : y = 0 := Classical.not_not.1 hy0
  rw [errV_0] at HR HC
  by_cases hl0 : l = []
  · have HBE : Hid (B' = (⟨D, (e.commit n).1, used, down, torn⟩, 0)) := hid (by rw [HB.out, if_neg hx0, if_pos (.inr hl0)])
    clear HB HSL
    subst hl0
    go_enter Tryz.func13, Tryz.ntmps13
    go_wp2_with fail
    with_reducible refine HW.out.mono ?_
    rintro r w1 ⟨v, rfl, hs1⟩
    obtain ⟨al, cl, rfl, _, _, _⟩ := hs1.sl_val
    obtain ⟨_, k1, _⟩ := H0.out _ _ hs1.tail.swap
    have H1 := hid hs1
    clear hs1 HW
    go_wp2_with (first
      | (go_at_call 34; with_reducible refine (HR.out _ _ H1.out.tail).mono ?_; rintro r w2 ⟨rfl, rfl⟩)
      | (go_at_call 35; with_reducible refine (HC.out _ _ H1.out.tail).mono ?_; rintro r w3 ⟨rfl, hs3⟩; have H3 := hid hs3; clear hs3))
    go_ret
    rw [HBE.out]
    exact ⟨rfl, H3.out.swap⟩
  have hlp : 0 < l.length := List.length_pos_iff.2 hl0
  obtain ⟨c, hc⟩ : ∃ c, l.length = c := ⟨_, rfl⟩
  have hcb : ((c : Int) == 0) = false := by simp; omega
  have hnn : ¬ ((0 : Int) ≠ 0 ∨ l = []) := fun h => h.elim (fun h => h rfl) hl0
  have HCL := hid hc; have HNN := hid hnn
  clear hlp hc hnn
  by_cases hd : down = true
  · have HBE : Hid (B' = (⟨D, e, used, down, torn⟩, 6)) := hid (by rw [HB.out, if_neg hx0, if_neg HNN.out, if_pos hd])
    clear HB HSL HC
    subst hd
    go_enter Tryz.func13, Tryz.ntmps13
    go_wp2_with fail
    with_reducible refine HW.out.mono ?_
    rw [HCL.out]
    rintro r w1 ⟨v, rfl, hs1⟩
    obtain ⟨al, cl, rfl, _, _, _⟩ := hs1.sl_val
    obtain ⟨_, k1, _, k3, _⟩ := H0.out _ _ hs1.tail.swap
    have H1 := hid hs1
    clear hs1 HW
    go_wp2_with (go_at_call 34; with_reducible refine (HR.out _ _ H1.out.tail).mono ?_; rintro r w2 ⟨rfl, rfl⟩)
    go_ret
    rw [HBE.out]
    exact ⟨rfl, H1.out.tail.swap⟩
  obtain rfl : down = false := by simpa using hd
  by_cases h250 : 250 ≤ used
  · have hi250 : (250 : Int) ≤ (used : Int) := by omega
    have HBE : Hid (B' = (⟨D, e, used, false, torn⟩, 4)) := hid (by rw [HB.out, if_neg hx0, if_neg HNN.out, if_neg hd, if_pos h250])
    clear HB HSL HC
    go_enter Tryz.func13, Tryz.ntmps13
    go_wp2_with fail
    with_reducible refine HW.out.mono ?_
    rw [HCL.out]
    rintro r w1 ⟨v, rfl, hs1⟩
    obtain ⟨al, cl, rfl, _, _, _⟩ := hs1.sl_val
    obtain ⟨_, k1, k2, k3, _⟩ := H0.out _ _ hs1.tail.swap
    have H1 := hid hs1
    clear hs1 HW
    go_wp2_with (go_at_call 34; with_reducible refine (HR.out _ _ H1.out.tail).mono ?_; rintro r w2 ⟨rfl, rfl⟩)
    go_ret
    rw [HBE.out]
    exact ⟨rfl, H1.out.tail.swap⟩
  have hi250 : ¬ (250 : Int) ≤ (used : Int) := by omega
  obtain ⟨hse1, hse2⟩ := HSL.out hl0 (by omega)
  have hsp := seal_pos used l
  by_cases ho : D.off = true
  · have hwo := fun W (M : List HProp) (h : S w0 W (dskB d D :: M)) => dwrite_off w0 W d D used (sealL used l) torn M (by omega) ⟨hsp, hse1⟩ ho h
    simp only [errV_ne (show (14 : Int) ≠ 0 by decide)] at hwo
    have HWO := hid hwo; have HSE := hid hse2
    have hbe : B' = (⟨D.tear used (sealL used l) torn, e, used, true, torn⟩, 14) := by rw [HB.out, if_neg hx0, if_neg HNN.out, if_neg hd, if_neg h250, if_pos ho]
    clear hwo hse1 hse2 hsp HC HSL HB
    generalize sealL used l = sq at *
    have HBE := hid hbe
    clear hbe
    go_enter Tryz.func13, Tryz.ntmps13
    go_wp2_with fail
    with_reducible refine HW.out.mono ?_
    have hcl := HCL.out
    rw [hcl]
    rintro r w1 ⟨v, rfl, hs1⟩
    have HRD := hid (RdK.own (w0 := w0) (v := v) (n := c) (xs := pcells l) (e := 51) (size := 2) (L := engP eb bs e :: bseB b d (.pointer (some ⟨eb, 0, none⟩)) used false torn :: dskB d D :: L))
    obtain ⟨al, cl, rfl, _, _, _⟩ := hs1.sl_val
    obtain ⟨k0, k1, k2, k3, k4, _⟩ := H0.out _ _ hs1.tail.swap
    have hs2 : S w0 w1.drew _ := hs1.drew
    have q0 := H0.out _ _ hs2.tail.swap
    have q0' := And.intro q0.1 (And.intro q0.2.2.1 q0.2.2.2.2.1)
    have H1 := hid hs1
    have hsc := HSE.out _ _ (.slice al c cl) hs2 (by rw [hcl]; exact HRD.out)
    have HSC := hid hsc
    clear hs1 HW q0 hcl hs2 hsc
    go_upto_region 10 with (go_at_call 34; with_reducible refine (HR.out _ _ H1.out.tail).mono ?_; rintro r w2 ⟨rfl, rfl⟩)
    go_region_held_law (fun w' => w'.cell? ⟨b, 0, none⟩ = some (.pointer (some ⟨d, 0, none⟩)) ∧ w'.cell? ⟨b, 2, none⟩ = some (.int .i64 used) ∧ w'.cell? ⟨b, 4, none⟩ = some (.int .i64 torn)) (first | (with_reducible assumption) | (with_reducible exact ⟨k0, k2, k4⟩) | (with_reducible exact q0') | (with_reducible exact q1) | (with_reducible exact q2))
      (first
        | (go_at_call 37; with_reducible refine HSC.out.mono ?_; rintro r w5 ⟨rfl, hs5⟩; have q1 := (fun h => And.intro (And.left h) (And.intro (And.left (And.right (And.right h))) (And.left (And.right (And.right (And.right (And.right h))))))) (H0.out _ _ hs5.tail.swap); have H5 := hid hs5; clear hs5)
        | (go_at_call 36; with_reducible refine (HWO.out _ _ (H5.out.tail.conv (M := dskB d D :: bseB b d (.pointer (some ⟨eb, 0, none⟩)) used false torn :: engP eb bs e :: L) (by simp only [all]; ac_rfl))).mono ?_; rintro r w6 ⟨rfl, hs6⟩; have q2 := (fun h => And.intro (And.left h) (And.intro (And.left (And.right (And.right h))) (And.left (And.right (And.right (And.right (And.right h))))))) (H0.out _ _ hs6.tail); have H6 := hid hs6; clear hs6))
    have h6 : S w0 _ (bseB b d (.pointer (some ⟨eb, 0, none⟩)) used false torn :: engP eb bs e :: dskB d (D.tear used sq torn) :: L) := H6.out.conv (by simp only [all]; ac_rfl)
    have k34 := (H0.out _ _ h6).2.2.2.2.2 3
    have k33 := (H0.out _ _ h6).2.2.2.1
    have H7 := hid (h6.blk_set 3 (by simp) (.bool true))
    clear h6 k0 k1 k2 k3 k4
    go_wp2_with fail
    go_ret
    rw [HBE.out]
    exact ⟨rfl, H7.out⟩
  · have hwo := fun W (M : List HProp) (h : S w0 W (dskB d D :: M)) => dwrite_on w0 W d D used (sealL used l) torn M (by omega) (by simpa using ho) h
    have HWO := hid hwo; have HSE := hid hse2
    have hbe : B' = (⟨D.put used (sealL used l), (e.commit n).1, used + 1, false, torn⟩, 0) := by rw [HB.out, if_neg hx0, if_neg HNN.out, if_neg hd, if_neg h250, if_neg ho]
    clear hwo hse1 hse2 hsp HSL HB
    generalize sealL used l = sq at *
    have HBE := hid hbe
    clear hbe
    go_enter Tryz.func13, Tryz.ntmps13
    go_wp2_with fail
    with_reducible refine HW.out.mono ?_
    have hcl := HCL.out
    rw [hcl]
    rintro r w1 ⟨v, rfl, hs1⟩
    have HRD := hid (RdK.own (w0 := w0) (v := v) (n := c) (xs := pcells l) (e := 51) (size := 2) (L := engP eb bs e :: bseB b d (.pointer (some ⟨eb, 0, none⟩)) used false torn :: dskB d D :: L))
    obtain ⟨al, cl, rfl, _, _, _⟩ := hs1.sl_val
    obtain ⟨k0, k1, k2, k3, k4, _⟩ := H0.out _ _ hs1.tail.swap
    have hs2 : S w0 w1.drew _ := hs1.drew
    have q0 := H0.out _ _ hs2.tail.swap
    have q0' := And.intro q0.1 (And.intro q0.2.2.1 q0.2.2.2.2.1)
    have H1 := hid hs1
    have hsc := HSE.out _ _ (.slice al c cl) hs2 (by rw [hcl]; exact HRD.out)
    have HSC := hid hsc
    clear hs1 HW q0 hcl hs2 hsc
    go_upto_region 10 with (go_at_call 34; with_reducible refine (HR.out _ _ H1.out.tail).mono ?_; rintro r w2 ⟨rfl, rfl⟩)
    go_region_held_law (fun w' => w'.cell? ⟨b, 0, none⟩ = some (.pointer (some ⟨d, 0, none⟩)) ∧ w'.cell? ⟨b, 2, none⟩ = some (.int .i64 used) ∧ w'.cell? ⟨b, 4, none⟩ = some (.int .i64 torn)) (first | (with_reducible assumption) | (with_reducible exact ⟨k0, k2, k4⟩) | (with_reducible exact q0') | (with_reducible exact q1) | (with_reducible exact q2))
      (first
        | (go_at_call 37; with_reducible refine HSC.out.mono ?_; rintro r w5 ⟨rfl, hs5⟩; have q1 := (fun h => And.intro (And.left h) (And.intro (And.left (And.right (And.right h))) (And.left (And.right (And.right (And.right (And.right h))))))) (H0.out _ _ hs5.tail.swap); have H5 := hid hs5; clear hs5)
        | (go_at_call 36; with_reducible refine (HWO.out _ _ (H5.out.tail.conv (M := dskB d D :: bseB b d (.pointer (some ⟨eb, 0, none⟩)) used false torn :: engP eb bs e :: L) (by simp only [all]; ac_rfl))).mono ?_; rintro r w6 ⟨rfl, hs6⟩; have q2 := (fun h => And.intro (And.left h) (And.intro (And.left (And.right (And.right h))) (And.left (And.right (And.right (And.right (And.right h))))))) (H0.out _ _ hs6.tail); have H6 := hid hs6; clear hs6))
    have h6 : S w0 _ (bseB b d (.pointer (some ⟨eb, 0, none⟩)) used false torn :: engP eb bs e :: dskB d (D.put used sq) :: L) := H6.out.conv (by simp only [all]; ac_rfl)
    have k24 := (H0.out _ _ h6).2.2.2.2.2 2
    have k22 := (H0.out _ _ h6).2.2.1
    have hcu : ((used + 1 : Nat) : Int) = (used : Int) + 1 := by omega
    have h7 : S w0 (w6.setCell ⟨b, 2, none⟩ (.int .i64 ((used : Int) + 1))) (bseB b d (.pointer (some ⟨eb, 0, none⟩)) (used + 1) false torn :: engP eb bs e :: dskB d (D.put used sq) :: L) := by
      rw [← hcu]
      exact h6.blk_set 2 (by simp) (.int .i64 ((used + 1 : Nat) : Int))
    have k11 := (H0.out _ _ h6).2.1
    have H7 := hid h7
    have hwr1 : wrap64 ((used : Int) + 1) = (used : Int) + 1 := IntWalk.wrap64_in _ ⟨by omega, by omega⟩
    clear h6 h7 k0 k1 k2 k3 k4 hcu
    go_wp2_with (go_at_call 35; with_reducible refine (HC.out _ _ H7.out.swap).mono ?_; rintro r w8 ⟨rfl, hs8⟩; have H8 := hid hs8; clear hs8)
    go_ret
    rw [HBE.out]
    exact ⟨rfl, H8.out.swap⟩
end Go.Proofs.YtaghjcdlghcjeaaGreatDoor
/- interleafkeep's fact ran: two strict ones, each of which writes what the other one read: step by step. No walk in sight. -/
namespace Go.Proofs.YtaghjcdlghcjeaaGreatDoor
open Go Go.RowKit Go.Sep

def ranA : Tx := { Tx.zero with level := 2, start := 0, begun := 1 }
def ranB : Tx := { Tx.zero with level := 2, start := 0, begun := 2 }
def ran1 : Eng := { Eng.zero with count := 1, txs := [ranA] }
def ran2 : Eng := { Eng.zero with count := 2, txs := [ranA, ranB] }
def ran3 : Eng := { Eng.zero with count := 2, txs := [{ ranA with reads := [(1, 0)] }, ranB] }
def ran4 : Eng := { Eng.zero with count := 2, txs := [{ ranA with reads := [(1, 0)] }, { ranB with reads := [(2, 0)] }] }
def ran5 : Eng := { Eng.zero with count := 2, t := ⟨[(2, 1)], [], []⟩, txs := [{ ranA with reads := [(1, 0)], writes := [(2, 5)], want := (2, 5), fore := [1] }, { ranB with reads := [(2, 0)], aft := [0] }] }
def ran6 : Eng := { Eng.zero with count := 2, t := ⟨[(2, 1), (1, 2)], [], []⟩, txs := [{ ranA with reads := [(1, 0)], writes := [(2, 5)], want := (2, 5), fore := [1], aft := [1] }, { ranB with reads := [(2, 0)], writes := [(1, 6)], want := (1, 6), aft := [0], fore := [0] }] }
def ran7 : Eng := { Eng.zero with count := 3, t := ⟨[(1, 2)], [], []⟩, txs := [{ ranA with state := 3, ended := 3, why := 13, reads := [(1, 0)], writes := [(2, 5)], want := (2, 5), fore := [1], aft := [1] }, { ranB with reads := [(2, 0)], writes := [(1, 6)], want := (1, 6), aft := [0], fore := [0] }] }
theorem ran_1 : Eng.zero.begin_ 2 = (ran1, 1, 0) := by rfl
theorem ran_2 : ran1.begin_ 2 = (ran2, 2, 0) := by rfl
theorem ran_3 : ran2.read 1 1 = (ran3, 0, 8) := by rfl
theorem ran_4 : ran3.read 2 2 = (ran4, 0, 8) := by rfl
theorem ran_5 : ran4.write 1 2 5 = (ran5, true, 0) := by rfl
theorem ran_6 : ran5.write 2 1 6 = (ran6, true, 0) := by rfl
theorem sortI_one (k : Int) : sortI [k] = [k] := (sortI_of (List.Perm.refl _) (by simp)).symm
theorem drop_6 : tbDrop ran6.t 1 = (ran7.t, []) := by
  have h : holders (strikeT ran6.t 1) 1 = [2] := by rfl
  unfold tbDrop
  rw [h, sortI_one]
  rfl
theorem goes_6 : ran6.goes 0 13 = ran7 := by
  have h1 : (ran6.mark 0 13).t = ran6.t := rfl
  have h : ran6.goes 0 13 = freesL (goesN 1) (tbDrop (ran6.mark 0 13).t 1).2 { ran6.mark 0 13 with t := (tbDrop (ran6.mark 0 13).t 1).1 } := by rfl
  rw [h, h1, drop_6]
  rfl
theorem ran_7 : ran6.commit 1 = (ran7, 13) := by
  have h : ran6.commit 1 = (ran6.goes 0 13, 13) := by rfl
  rw [h, goes_6]
theorem ready_7 : ran7.ready 2 = 0 := by rfl
theorem ran_8 : (ran7.commit 2).2 = 0 := by
  unfold Eng.commit
  rw [if_neg (by rw [ready_7]; decide)]
theorem written_7 : (ran7.tx 1).written = [(1, 6)] := by
  have h : (ran7.tx 1).writes.map (·.1) = [1] := by rfl
  unfold Tx.written
  rw [h, sortI_one]
  rfl
theorem drop_7 : tbDrop ran7.t 2 = (⟨[], [], []⟩, []) := by
  have h : holders (strikeT ran7.t 2) 2 = [1] := by rfl
  unfold tbDrop
  rw [h, sortI_one]
  rfl
theorem last_8 : (ran7.commit 2).1.last = 1 := by
  have h1 : (ran7.commit 2).1 = (ran7.over2 1).frees 1 := by
    have := commit_eq ran7 1 ready_7
    rw [show (2 : Int) = ((1 : Nat) : Int) + 1 from rfl, this]
  have ht : (ran7.over2 1).t = ran7.t := (told_txs ran7 1).2.1
  have h2 : (ran7.over2 1).frees 1 = freesL (goesN (ran7.over2 1).open_) (tbDrop (ran7.over2 1).t 2).2 { ran7.over2 1 with t := (tbDrop (ran7.over2 1).t 2).1 } := by rfl
  rw [h1, h2, ht, drop_7]
  show (ran7.told 1).last = 1
  unfold Eng.told
  rw [written_7]
  rfl
end Go.Proofs.YtaghjcdlghcjeaaGreatDoor
/- interleafkeep.BaseCrashes, and its fact kept: what holds of the disk, the engine and the map at each round. No walk in sight. -/
namespace Go.Proofs.YtaghjcdlghcjeaaGreatDoor
open Go Go.RowKit Go.Sep

/-! The fact kept. -/
def kep2 : Eng := { Eng.zero with count := 1, t := ⟨[(4, 1)], [], []⟩, txs := [{ ranA with writes := [(4, 9)], want := (4, 9) }] }
theorem kep_2 : ran1.write 1 4 9 = (kep2, true, 0) := by rfl
theorem kep_r : kep2.ready 1 = 0 := by rfl
theorem kep_t : (kep2.tx 0).written = [(4, 9)] := by
  have h : (kep2.tx 0).writes.map (·.1) = [4] := by rfl
  unfold Tx.written
  rw [h, sortI_one]
  rfl
theorem kep_w : kep2.writes 1 = ([(4, 9)], 0) := by
  have h : kep2.writes 1 = ((kep2.tx 0).written, 0) := by rfl
  rw [h, kep_t]
theorem over_nil : Eng.over 0 [] = Eng.zero := by unfold Eng.over; rw [instOk_nil]; rfl
theorem over_start : Eng.over (([] : List Vers).length : Nat) (listD (wantD [])) = Eng.zero := by
  have : listD (wantD []) = [] := by decide
  rw [this]; exact over_nil
theorem kep_fine : Fine [(4, 9)] := ⟨by simp, by simp, by simp⟩
noncomputable def kepB : Bas := ⟨Dsk.zero, kep2, 0, false, -1⟩
theorem kep_b : kepB.commit 1 = ({ kepB with dsk := Dsk.zero.put 0 (sealL 0 [(4, 9)]), used := 1, eng := (kep2.commit 1).1 }, 0) := by
  have hoff : Dsk.zero.off = false := rfl
  unfold Bas.commit kepB
  simp only
  rw [kep_w, kep_r, if_neg (by simp), if_neg (by simp), if_neg (by simp), if_neg (by simp), hoff, if_neg (by simp)]
theorem kep_all : listD (wantD [[(4, 9)]]) = [(4, 9)] := by decide

/-! The rounds. -/
structure Cr (i : Nat) (D : Dsk) (ls : List Vers) (e : Eng) : Prop where
  disk : DiskOk D ls
  few : ls.length ≤ i
  eng : OkT (10 + 1000 * i) e []
  small : Small e
variable {i : Nat} {D : Dsk} {ls : List Vers} {e : Eng}
theorem Small.over (at_ : Int) (l : Vers) : Small (Eng.over at_ l) := by
  intro j hj
  unfold Eng.over at hj
  split at hj <;> simp [Eng.zero] at hj
theorem Cr.start : Cr 0 Dsk.zero [] (Eng.over (([] : List Vers).length : Nat) (listD (wantD []))) := ⟨DiskOk.start, by simp, OkT.over _ _, Small.over _ _⟩
theorem Cr.next (h : Cr i D ls e) : Cr (i + 1) D ls e := ⟨h.disk, by have := h.few; omega, h.eng.mono (by omega), h.small⟩
theorem Cr.begun (h : Cr i D ls e) (level : Int) : Cr (i + 1) D ls (e.begin_ level).1 := ⟨h.disk, by have := h.few; omega, (h.eng.begun level).mono (by omega), h.small.begun level⟩
theorem Cr.red (h : Cr i D ls e) (n key : Int) : Cr (i + 1) D ls (e.read n key).1 := ⟨h.disk, by have := h.few; omega, (h.eng.red n key).mono (by omega), h.small.red h.eng n key⟩
theorem Cr.wrote (h : Cr i D ls e) (n key value : Int) (hw : Sm (key, value)) : Cr (i + 1) D ls (e.write n key value).1 := ⟨h.disk, by have := h.few; omega, (h.eng.wrote n key value).mono (by omega), h.small.wrote h.eng n key value hw⟩
theorem Cr.aborted (h : Cr i D ls e) (n : Int) : Cr (i + 1) D ls (e.abort n).1 := ⟨h.disk, by have := h.few; omega, (h.eng.aborted n).mono (by omega), h.small.aborted h.eng n⟩
theorem Cr.cut (h : Cr i D ls e) (n : Int) : Cr i (D.setCut n) ls e := ⟨h.disk.setCut n, h.few, h.eng, h.small⟩
theorem Cr.again (h : Cr i D ls e) (n : Int) : Cr i (D.setCut n) ls (Eng.over ls.length (listD (wantD ls))) := ⟨h.disk.setCut n, h.few, (OkT.over _ _).mono (by omega), Small.over _ _⟩
/-- A commit: it counts if, and only if, it was told to be done. -/
theorem Cr.committed (h : Cr i D ls e) (hi : i < 90) (n torn : Int) {B : Bas} {x : Int} (hB : (Bas.mk D e ls.length false torn).commit n = (B, x)) :
    ∃ ms, Cr (i + 1) B.dsk ms B.eng ∧ (B.down = false → B.used = ms.length) ∧ wantD ms = if x = 0 then wantL (wantD ls) (e.writes n).1 else wantD ls := by
  have hle := h.few
  have hg := h.small.good h.eng n
  unfold Bas.commit at hB
  simp only at hB
  have hk : Cr (i + 1) D ls (e.commit n).1 := ⟨h.disk, by omega, (h.eng.committed n).mono (by omega), h.small.committed h.eng n⟩
  by_cases h1 : (e.writes n).2 ≠ 0
  · rw [if_pos h1] at hB
    cases hB
    exact ⟨ls, h.next, fun _ => rfl, by rw [if_neg h1]⟩
  rw [if_neg h1] at hB
  by_cases h2 : e.ready n ≠ 0 ∨ (e.writes n).1 = []
  · rw [if_pos h2] at hB
    cases hB
    refine ⟨ls, hk, fun _ => rfl, ?_⟩
    split
    · rename_i h3
      rcases h2 with h2 | h2
      · exact absurd h3 h2
      · rw [h2]; rfl
    · rfl
  rw [if_neg h2, if_neg (by decide), if_neg (by omega)] at hB
  have hne : (e.writes n).1 ≠ [] := fun hx => h2 (.inr hx)
  have hfine := hg.fine hne (by have := hg.few; omega)
  by_cases h3 : D.off = true
  · rw [if_pos h3] at hB
    cases hB
    exact ⟨ls, ⟨h.disk.tear hfine (hg.safe (by omega)) torn, by omega, h.eng.mono (by omega), h.small⟩, fun hd => absurd hd (by simp), rfl⟩
  · rw [if_neg h3] at hB
    cases hB
    refine ⟨ls ++ [(e.writes n).1], ⟨h.disk.put hfine (by omega), by rw [List.length_append]; simp; omega, hk.eng, hk.small⟩, fun _ => by simp, ?_⟩
    rw [wantD_snoc, if_pos rfl]
theorem Cr.seal (h : Cr i D ls e) (hi : i < 90) {w0 : World} (hL : LibOk w0) (n : Int) (hne : (e.writes n).1 ≠ []) : SealOk w0 ls.length (e.writes n).1 := by
  have hle := h.few
  have hg := h.small.good h.eng n
  have hfine := hg.fine hne (by have := hg.few; omega)
  have hfew := hg.few
  exact ⟨seal_len (by omega) hfine.two (by omega), fun W M v hs hr => sealed_any w0 W ls.length v _ M (by omega) hfine.two (by omega) hL.1 hs hr⟩
/-- What is opened has what the map has. -/
theorem Cr.all (h : Cr i D ls e) : (Eng.over ls.length (listD (wantD ls))).allV = listD (wantD ls) := by
  by_cases h0 : ls = []
  · subst h0
    rw [over_start]
    decide
  · exact over_all h.disk.2.2.1 (over_ok h0 h.disk.2.2.1 h.disk.2.1)
end Go.Proofs.YtaghjcdlghcjeaaGreatDoor
namespace Go.Proofs.YtaghjcdlghcjeaaGreatDoor
open Go Go.RowKit Go.Sep

set_option maxRecDepth 40000 in
theorem bengine_any (w0 w : World) (b d : Nat) (e : Value) (used : Nat) (down : Bool) (torn : Int) (L : List HProp) (hs : S w0 w (bseB b d e used down torn :: L)) :
    Calls Tryz.prog 6 #[.pointer (some ⟨b, 0, none⟩)] w fun r w' => r = .returned e ∧ w = w' := by
  have c := hs.blk_cell 1 rfl
  clear hs
  go_enter Tryz.func6, Tryz.ntmps6
  go_wp2_with fail
  go_ret
  exact ⟨rfl, rfl⟩
set_option maxRecDepth 40000 in
theorem bused_any (w0 w : World) (b d : Nat) (e : Value) (used : Nat) (down : Bool) (torn : Int) (L : List HProp) (hs : S w0 w (bseB b d e used down torn :: L)) :
    Calls Tryz.prog 19 #[.pointer (some ⟨b, 0, none⟩)] w fun r w' => r = .returned (.int .i64 used) ∧ w = w' := by
  have c := hs.blk_cell 2 rfl
  clear hs
  go_enter Tryz.func19, Tryz.ntmps19
  go_wp2_with fail
  go_ret
  exact ⟨rfl, rfl⟩
set_option maxRecDepth 40000 in
theorem bdown_any (w0 w : World) (b d : Nat) (e : Value) (used : Nat) (down : Bool) (torn : Int) (L : List HProp) (hs : S w0 w (bseB b d e used down torn :: L)) :
    Calls Tryz.prog 18 #[.pointer (some ⟨b, 0, none⟩)] w fun r w' => r = .returned (.bool down) ∧ w = w' := by
  have c := hs.blk_cell 3 rfl
  clear hs
  go_enter Tryz.func18, Tryz.ntmps18
  go_wp2_with fail
  go_ret
  exact ⟨rfl, rfl⟩
set_option maxRecDepth 40000 in
theorem btorn_any (w0 w : World) (b d : Nat) (e : Value) (used : Nat) (down : Bool) (torn t2 : Int) (L : List HProp) (hs : S w0 w (bseB b d e used down torn :: L)) :
    Calls Tryz.prog 16 #[.pointer (some ⟨b, 0, none⟩), .int .i64 t2] w fun r w' => r = .returned (.tuple #[]) ∧ S w0 w' (bseB b d e used down t2 :: L) := by
  have c := hs.blk_cell 4 rfl
  have f := hs.blk_free 4
  have H : Hid (S w0 _ (bseB b d e used down t2 :: L)) := hid (hs.blk_set 4 (by simp) (.int .i64 t2))
  clear hs
  go_enter Tryz.func16, Tryz.ntmps16
  go_wp2_with fail
  go_end0
  exact ⟨rfl, H.out⟩
theorem ok_k1 : OkT 10 ran1 [] := by have := OkT.start.begun 2; rw [ran_1] at this; exact this
theorem ok_k2 : OkT 1010 kep2 [] := by have := ok_k1.wrote 1 4 9; rw [kep_2] at this; exact this
theorem zero_disk : Tryz.zeroCells28.toList = dskV Dsk.zero := by kernel_rfl
theorem dsk_made {w0 w : World} {b : Nat} {L : List HProp} (h : S w0 w (blk b 28 Tryz.zeroCells28.toList :: L)) : S w0 w (dskB b Dsk.zero :: L) := by
  rw [zero_disk] at h
  exact .dsk_shut (List.length_replicate ..) h
set_option maxHeartbeats 8000000 in
set_option maxRecDepth 40000 in
theorem kept_any (w0 w : World) (L : List HProp) (hE : ErrT w0) (hL : LibOk w0) (hs : S w0 w L) :
    Calls Tryz.prog 4 #[] w fun r w' => r = .returned (.bool true) ∧ S w0 w' L := by
  have h0 := dsk_made (hs.alloc Tryz.zeroCells28 28)
  have HO := hid (open_any w0 _ w.heap.size Dsk.zero [] L hL DiskOk.start h0)
  rw [over_start] at HO
  generalize hd : w.heap.size = d at *
  clear hs h0
  go_enter Tryz.func4, Tryz.ntmps4
  go_wp2_with fail
  with_reducible refine HO.out.mono ?_
  rintro r w2 ⟨b, eb, rfl, hs2⟩
  have h2 := bengine_any w0 w2 b d _ _ _ _ _ hs2
  have h3 := ebegin_any w0 w2 eb [] Eng.zero 2 _ 10 OkT.start hs2.swap
  rw [ran_1] at h3
  dsimp only at h3
  rw [errV_0] at h3
  have H2 := hid h2; have H3 := hid h3
  clear h2 h3 hs2 HO hd
  go_wp2_with (first
    | (go_at_call 6; with_reducible refine H2.out.mono ?_; rintro r w' ⟨rfl, rfl⟩)
    | (go_at_call 9; with_reducible refine H3.out.mono ?_; rintro r w3 ⟨rfl, bs3, hs3⟩; have H4 := hid hs3; have H5 := hid (bengine_any w0 w3 b d _ _ _ _ _ hs3.swap); clear hs3)
    | (go_at_call 6; with_reducible refine H5.out.mono ?_; rintro r w' ⟨rfl, rfl⟩)
    | (go_at_call 11; have h6 := ewrite_any w0 w3 eb bs3 ran1 1 4 9 _ 10 ok_k1 (by decide) H4.out; rw [kep_2] at h6; dsimp only at h6; rw [errV_0] at h6; with_reducible refine h6.mono ?_; rintro r w4 ⟨rfl, hs4⟩; have H6 := hid hs4; clear h6 hs4))
  have hco := bcommit_any w0 w4 b d eb bs3 kepB 1 L 1010 hE ok_k2 (by decide) (by show 0 ≤ 250; decide) (fun _ _ => by
    show SealOk w0 0 (kep2.writes 1).1
    rw [kep_w]
    exact ⟨seal_len (by omega) kep_fine.two (by simp), fun W M v hs hr => sealed_any w0 W 0 v _ M (by omega) kep_fine.two (by simp) hL.1 hs hr⟩) H6.out.swap
  rw [kep_b] at hco
  dsimp only at hco
  rw [errV_0] at hco
  have HCO := hid hco
  clear hco
  go_wp2_with (go_at_call 13; with_reducible refine HCO.out.mono ?_; rintro r w5 ⟨rfl, hs5⟩; have H5 := hid hs5; clear hs5)
  have hdk : DiskOk (Dsk.zero.put 0 (sealL 0 [(4, 9)])) [[(4, 9)]] := DiskOk.start.put kep_fine (by simp)
  have hop := open_any w0 w5 d _ _ _ hL hdk (H5.out.conv (M := dskB d (Dsk.zero.put 0 (sealL 0 [(4, 9)])) :: bseB b d (.pointer (some ⟨eb, 0, none⟩)) 1 false (-1) :: engP eb bs3 (kep2.commit 1).1 :: L) (by simp only [all, kepB]; ac_rfl))
  have HOP := hid hop
  clear hop HCO
  go_wp2_with fail
  with_reducible refine HOP.out.mono ?_
  rintro r w6 ⟨b2, e2, rfl, hs6⟩
  have hen := bengine_any w0 w6 b2 d _ _ _ _ _ hs6
  have hus : ∀ W X, S w0 W (bseB b2 d (.pointer (some ⟨e2, 0, none⟩)) [[((4 : Int), (9 : Int))]].length false (-1) :: X) → Calls Tryz.prog 19 #[.pointer (some ⟨b2, 0, none⟩)] W fun r w' => r = .returned (.int .i64 1) ∧ W = w' := fun W X h => bused_any w0 W b2 d _ _ _ _ _ h
  have hall := eall_any w0 w6 e2 [] _ _ 10 [] (OkT.over _ _) hs6.swap
  have hav : (Eng.over (([[((4 : Int), (9 : Int))]] : List Vers).length : Nat) (listD (wantD [[(4, 9)]]))).allV = [(4, 9)] := by
    rw [over_all hdk.2.2.1 (over_ok (by simp) hdk.2.2.1 hdk.2.1), kep_all]
  rw [hav, show ([((4 : Int), (9 : Int))] : Vers).length = 1 from rfl] at hall
  have HEN := hid hen; have HUS := hid hus; have HALL := hid hall
  clear hs6 hen hus hall hav HOP hdk H5 H6 H2 H3
  go_wp2_with (first
    | (go_at_call 6; with_reducible refine HEN.out.mono ?_; rintro r w' ⟨rfl, rfl⟩)
    | (go_at_call 17; with_reducible refine HALL.out.mono ?_; rintro r w7 ⟨v, rfl, hs7⟩; obtain ⟨al, cl, rfl, hcl, hcl2, _⟩ := hs7.sl_val; obtain ⟨g, o, rfl, hgn, x0, x1⟩ := hs7.sl_pair (show ([((4 : Int), (9 : Int))] : Vers)[0]? = some (4, 9) from rfl); rw [Nat.zero_mul, Nat.add_zero] at x0 x1; have H7 := hid hs7; have H8 := hid (HUS.out w7 _ hs7.tail.swap); clear hs7)
    | (go_at_call 19; with_reducible refine H8.out.mono ?_; rintro r w' ⟨rfl, rfl⟩))
  go_ret
  exact ⟨rfl, H7.out.tail.tail.tail.tail.tail.tail⟩
end Go.Proofs.YtaghjcdlghcjeaaGreatDoor
