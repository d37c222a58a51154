/- interleafkeep's tale, when all are strict: a line of what committed ones did exists, and put one behind the other each one reads just what it read. No walk in sight. -/
import Derived.Test.YtcbokjocahnlcaaGreatDoorSt0
import Derived.Test.YtcbokjocahnlcaaGreatDoorSt15
/- Transactions at the same time, all of them strict: what each operation keeps. No walk in sight. -/
namespace Go.Proofs.YtcbokjocahnlcaaGreatDoor
open Go Go.RowKit Go.Sep
section
variable {e e' e0 : Eng} {i j : Nat} {N : Nat} {T U : List Task}
theorem two_lt {k : Nat} (h : (e.tx k).state = 2) : k < e.txs.length := by
 refine Classical.byContradiction fun hn => ?_
 rw [Eng.tx_far hn] at h; cases h
theorem Stern.retask {x : Option Nat} {T' : List Task} (h : Stern x e T) (ht : ∀ n k K l, n < e.txs.length → (e.tx n).state ≠ 3 → (e.tx k).state ≠ 3 → (e.tx k).wrote K = true → overlap e n k → n ≠ k → Task.ask k K l ∈ T → n ∈ l → ahead e n k ∨ ∃ l', Task.ask k K l' ∈ T' ∧ n ∈ l') : Stern x e T' :=
 ⟨h.two, h.apart, h.wr, h.cur, h.top, h.newv, h.reads, fun n k K a b c d f g o => by
  rcases h.rw n k K a b c d f g o with h2 | ⟨l, h2, h3⟩
  ·exact .inl h2
  ·exact ht n k K l b c d g o a h2 h3, h.mid⟩
theorem Stern.none_of {x : Option Nat} {T' : List Task} (h : Stern x e []) : Stern x e T' := h.retask fun n k K l _ _ _ _ _ _ h1 => by simp at h1
theorem Stern.goes (h : Stern none e []) (hS : Sure e []) (hok : OkT N e []) (hi : i < e.txs.length) (ha : (e.tx i).alive = true) (why : Int) : Stern none (e.goes i why) [] := by
 have h1 := h.left (.inl rfl) hS hi ha why
 have h2 := hS.left hok hi ha (by simp) why
 rw [List.append_nil] at h1 h2
 exact (stern_rule.goes hok hi ha why ⟨h2, h1⟩).2
theorem Stern.begun (h : Stern none e []) (hS : Sure e []) : Stern none (e.begin_ 2).1 [] := by
 rcases begin_out e 2 with ⟨_, _, b3⟩ | ⟨_, b2⟩
 ·rw [b3]
  have hg : ∀ j, j < e.txs.length → (e.grown (e.fresh 2)).tx j = e.tx j := fun j hj => Eng.grown_tx hj
  have hlen := Eng.grown_len (e := e) (e.fresh 2)
  have hnew := Eng.grown_last (e := e) (e.fresh 2)
  have hrow : ∀ K, (e.grown (e.fresh 2)).row K = e.row K := fun K => rfl
  have hcase : ∀ j, j < e.txs.length + 1 → j < e.txs.length ∨ j = e.txs.length := fun j hj => by omega
  have h2 : ∀ k, ((e.grown (e.fresh 2)).tx k).state = 2 → k < e.txs.length := fun k hk => by
   have := two_lt hk
   rw [hlen] at this
   rcases hcase k this with h1 | rfl
   ·exact h1
   ·rw [hnew] at hk; exact absurd (show (0 : Int) = 2 from hk) (by decide)
  have hno : ∀ {K b}, NoneOf e K b → NoneOf (e.grown (e.fresh 2)) K b := fun {K b} hn k h3 h4 => by
   have hk := h2 k h3
   rw [hg k hk] at h3 h4 ⊢
   exact hn k h3 h4
  have hlo : ∀ {K b f}, LastOf e K b f → LastOf (e.grown (e.fresh 2)) K b f := fun {K b f} ⟨l0, l1, l2, l3⟩ => by
   refine ⟨by rw [hlen]; omega, by rw [hg f l0]; exact l1, by rw [hg f l0]; exact l2, fun k hk h3 h4 => ?_⟩
   have hkl := h2 k h3
   rw [hg k hkl] at h3 h4 ⊢
   rw [hg f l0]
   exact l3 k hk h3 h4
  have hsh : ∀ {K b r}, Shows e K b r → Shows (e.grown (e.fresh 2)) K b r := fun {K b r} hs => by
   cases r with
   | none => exact hno hs
   | some p =>
    obtain ⟨f, f1, f2, f3⟩ := hs
    exact ⟨f, f1, by rw [hg f f3.1]; exact f2, hlo f3⟩
  have hfar : ∀ {a}, ((e.grown (e.fresh 2)).tx a).state ≠ 3 → (e.tx a).state ≠ 3 := fun {a} h3 h4 => by
   have : a < e.txs.length := by
    refine Classical.byContradiction fun hn => ?_
    rw [Eng.tx_far hn] at h4; cases h4
   rw [hg a this] at h3; exact h3 h4
  refine ⟨fun i hi => ?_, fun i k hi hk hd => ?_, h.wr, fun n hn ha K hK => ?_, fun K hK => ?_, fun i k K hi ha hk hlt hw => ?_, fun n hn hst r hr => ?_, fun n k K hnk hn h3 h4 h5 h6 h7 => ?_, fun n hn ⟨a, ha, ha1, _⟩ ⟨b, hb, hb1, _⟩ => ?_⟩
  ·rw [hlen] at hi
   rcases hcase i hi with h1 | rfl
   ·rw [hg i h1]; exact h.two i h1
   ·rw [hnew]; rfl
  ·rw [hlen] at hi hk
   rcases hcase k hk with h1 | rfl
   ·rw [hg k h1] at hd ⊢
    rcases hcase i hi with h3 | rfl
    ·rw [hg i h3]; exact h.apart i k h3 h1 hd
    ·rw [hnew]
     have := (hS.cnt k h1).2.1
     show e.count + 1 ≠ _
     omega
   ·rw [hnew] at hd; simp [Tx.alive, Eng.fresh, Tx.zero] at hd
  ·rw [hlen] at hn
   rw [hrow]
   rcases hcase n hn with h1 | rfl
   ·rw [hg n h1] at ha ⊢; exact hsh (h.cur n h1 ha K hK)
   ·rw [hnew]; exact hsh (h.top K hK)
  ·have h0 := hsh (h.top K hK)
   rw [hrow]
   show Shows _ K (e.count + 1 + 1) (readV (e.row K) e.last)
   have hbound : ∀ k, ((e.grown (e.fresh 2)).tx k).state = 2 → ((e.grown (e.fresh 2)).tx k).ended ≤ e.count := fun k hk => by
    have := h2 k hk
    rw [hg k this]; exact (hS.cnt k this).2.1
   cases hr : readV (e.row K) e.last with
   | none =>
    rw [hr] at h0
    intro k h3 h4
    have : e.count + 1 < _ := h0 k h3 h4
    have := hbound k h3
    omega
   | some p =>
    rw [hr] at h0
    obtain ⟨f, f1, f2, l0, l1, l2, l3⟩ := h0
    refine ⟨f, f1, f2, l0, l1, by omega, fun k hk h3 h4 => ?_⟩
    rcases l3 k hk h3 h4 with h5 | h5
    ·exact .inl h5
    ·have := hbound k h3; omega
  ·have hk2 := h2 k hk
   rw [hg k hk2] at hk hlt hw
   rw [hlen] at hi
   rcases hcase i hi with h1 | rfl
   ·rw [hg i h1] at ha hlt ⊢
    exact h.newv i k K h1 ha hk hlt hw
   ·rw [hnew] at hlt
    have := (hS.cnt k hk2).2.1
    have hlt' : e.count + 1 < (e.tx k).ended := hlt
    omega
  ·rw [hlen] at hn
   rcases hcase n hn with h1 | rfl
   ·rw [hg n h1] at hst hr ⊢
    have h3 := h.reads n h1 hst r hr
    refine ⟨h3.1, ?_⟩
    rcases h3.2 with ⟨h4, h5⟩ | ⟨f, h4, h5, h6⟩
    ·exact .inl ⟨h4, hno h5⟩
    ·exact .inr ⟨f, h4, by rw [hg f h6.1]; exact h5, hlo h6⟩
   ·rw [hnew] at hr; simp [Eng.fresh, Tx.zero] at hr
  ·rw [hlen] at hn
   have hkl := wrote_lt h6
   rw [hlen] at hkl
   have h1 : n < e.txs.length := by
    rcases hcase n hn with h1 | rfl
    ·exact h1
    ·rw [hnew] at h5; simp [Tx.saw, Eng.fresh, Tx.zero] at h5
   have h8 : k < e.txs.length := by
    rcases hcase k hkl with h1 | rfl
    ·exact h1
    ·rw [hnew] at h6; simp [Tx.wrote, Eng.fresh, Tx.zero, mget_nil] at h6
   unfold overlap at h7
   rw [hg n h1] at h3 h5 h7
   rw [hg k h8] at h4 h6 h7
   rcases h.rw n k K hnk h1 h3 h4 h5 h6 h7 with ⟨h9, h10⟩ | ⟨l, h9, _⟩
   ·exact .inl ⟨by rw [hg n h1]; exact h9, by rw [hg k h8]; exact h10⟩
   ·simp at h9
  ·have hnl := h2 n hn
   rw [hg n hnl] at hn ha hb
   exact h.mid n hn ⟨a, ha, hfar ha1, by simp⟩ ⟨b, hb, hfar hb1, by simp⟩
 ·rw [b2]; exact h
def asks (m : Nat) (i : Nat) (K : Int) : List Task := (List.range m).map fun k => .ask k K [i]
theorem mem_asks {m i k : Nat} {K K' : Int} {l : List Nat} : Task.ask k K' l ∈ asks m i K ↔ k < m ∧ K' = K ∧ l = [i] := by
 unfold asks
 rw [List.mem_map]
 constructor
 ·rintro ⟨k', h1, h2⟩
  cases h2
  exact ⟨List.mem_range.1 h1, rfl, rfl⟩
 ·rintro ⟨h1, rfl, rfl⟩
  exact ⟨k, List.mem_range.2 h1, rfl⟩
theorem Stern.noted (h : Stern none e []) (hi : i < e.txs.length) (hs : (e.tx i).state = 0) {key : Int} (hK : keyOk key) : Stern none (e.noted i key) (asks e.txs.length i key) := by
 have x := fun {β : Type} (g : Tx → β) (hg : ∀ x l, g { x with reads := l } = g x) (j : Nat) => noted_tx e i key g hg j
 have x1 := x (·.level) (fun _ _ => rfl)
 have x2 := x (·.state) (fun _ _ => rfl)
 have x3 := x (·.start) (fun _ _ => rfl)
 have x4 := x (·.begun) (fun _ _ => rfl)
 have x5 := x (·.ended) (fun _ _ => rfl)
 have x6 := x (·.writes) (fun _ _ => rfl)
 have x7 := x (·.fore) (fun _ _ => rfl)
 have x8 := x (·.aft) (fun _ _ => rfl)
 have x9 := x (·.alive) (fun _ _ => rfl)
 have hal : Alike e (e.noted i key) := ⟨noted_len .., fun j => ⟨x1 j, x3 j, x4 j⟩, rfl, rfl, rfl, fun j => by rw [x2], fun j _ => x5 j, fun j _ => x6 j⟩
 have hlen : (e.noted i key).txs.length = e.txs.length := noted_len ..
 have hself : (e.noted i key).tx i = { e.tx i with reads := (e.tx i).reads ++ [(key, (mget e.wr (((readV (e.row key) (e.asOf i)).map (·.1)).getD 0)).getD 0)] } := by unfold Eng.noted; rw [Eng.upd_self hi]
 have hother : ∀ j, j ≠ i → (e.noted i key).tx j = e.tx j := fun j hj => by unfold Eng.noted; rw [Eng.upd_ne (fun x => hj x.symm)]
 refine ⟨fun j hj => ?_, fun j k hj hk hd => ?_, h.wr, fun n hn ha K hK => ?_, fun K hK => hal.shows (h.top K hK), fun j k K hj ha hk hlt hw => ?_, fun n hn hst r hr => ?_, fun n k K hnk hn h3 h4 h5 h6 h7 => ?_, fun n hn ⟨a, ha, ha1, _⟩ ⟨b, hb, hb1, _⟩ => ?_⟩
 ·rw [x1]; exact h.two j (by rw [← hlen]; exact hj)
 ·rw [hlen] at hj hk; rw [x9] at hd; rw [x4, x5]; exact h.apart j k hj hk hd
 ·rw [hlen] at hn; rw [x9] at ha; rw [x4, x3]; exact hal.shows (h.cur n hn ha K hK)
 ·rw [hlen] at hj; rw [x9] at ha; rw [x2] at hk; rw [x4, x5] at hlt
  rw [x3]
  exact h.newv j k K hj ha hk hlt (by unfold Tx.wrote at *; rw [← x6]; exact hw)
 ·rw [hlen] at hn
  rw [x2] at hst
  rw [x4]
  by_cases hni : n = i
  ·subst hni
   rw [hself] at hr
   rcases List.mem_append.1 hr with hr | hr
   ·exact hal.readOk (h.reads n hn hst r hr)
   ·simp only [List.mem_singleton] at hr
    subst hr
    refine hal.readOk ⟨hK, ?_⟩
    have h1 := h.cur n hn (state_alive hs) key hK
    have has : e.asOf n = (e.tx n).start := by unfold Eng.asOf; rw [if_neg (by rw [h.two n hn]; decide)]
    rw [has]
    cases hv : readV (e.row key) (e.tx n).start with
    | none =>
     rw [hv] at h1
     have h0 : mget e.wr 0 = none := by
      cases hg : mget e.wr 0 with
      | none => rfl
      | some v => have := (h.wr 0 v hg).1; omega
     left
     exact ⟨by simp [h0], h1⟩
    | some p =>
     rw [hv] at h1
     obtain ⟨f, f1, f2, f3⟩ := h1
     right
     refine ⟨f, by simp [f1], ?_, f3⟩
     unfold Tx.wrote; rw [f2]; rfl
  ·rw [hother n hni] at hr
   exact hal.readOk (h.reads n hn hst r hr)
 ·rw [hlen] at hn
  rw [x2] at h3 h4
  have h6' : (e.tx k).wrote K = true := by unfold Tx.wrote at *; rw [← x6]; exact h6
  have h7' := (overlap_state x2 x4 x5 n k).1 h7
  have hsaw : (e.tx n).saw K = true ∨ (n = i ∧ K = key) := by
   by_cases hni : n = i
   ·subst hni
    rw [hself] at h5
    unfold Tx.saw at h5 ⊢
    rw [List.any_append, Bool.or_eq_true] at h5
    rcases h5 with h5 | h5
    ·exact .inl h5
    ·right; simp at h5; exact ⟨rfl, h5.symm⟩
   ·rw [hother n hni] at h5; exact .inl h5
  rcases hsaw with h8 | ⟨rfl, rfl⟩
  ·rcases h.rw n k K hnk hn h3 h4 h8 h6' h7' with ⟨h9, h10⟩ | ⟨l, h9, _⟩
   ·exact .inl ⟨by rw [x8]; exact h9, by rw [x7]; exact h10⟩
   ·simp at h9
  ·exact .inr ⟨[n], mem_asks.2 ⟨wrote_lt h6', rfl, rfl⟩, by simp⟩
 ·rw [x2] at hn ha1 hb1
  rw [x7] at ha
  rw [x8] at hb
  exact h.mid n hn ⟨a, ha, ha1, by simp⟩ ⟨b, hb, hb1, by simp⟩
def AheadUp (e e' : Eng) : Prop := ∀ n k, ahead e n k → ahead e' n k
theorem strict_note (e : Eng) (a b j : Nat) : ((e.note a b).tx j).strict = (e.tx j).strict := by
 obtain ⟨n1, n2, _⟩ := note_all e a b j
 unfold Tx.strict; rw [n1, n2]
theorem sawNew_stern : ∀ (l : List Int) (N : Nat) (e : Eng), Stern none e T → Sure e T → OkT N e U → i < e.txs.length → (e.tx i).state = 0 →
  if (sawNew i l e).2 = true then Stern none (sawNew i l e).1 T ∧ Sure (sawNew i l e).1 T ∧ AheadUp e (sawNew i l e).1 ∧ ∀ a ∈ l, ∀ k : Nat, mget e.wr a = some ((k : Int) + 1) → (e.tx k).strict = true → ahead (sawNew i l e).1 i k
  else Stern (some i) (sawNew i l e).1 T ∧ Sure (sawNew i l e).1 T
 | [], N, e, h, hS, hok, hi, hs => by
  rw [if_pos (by rfl)]
  exact ⟨h, hS, fun _ _ h => h, by simp⟩
 | at_ :: l, N, e, h, hS, hok, hi, hs => by
  unfold sawNew
  dsimp only
  by_cases hk : 0 < (mget e.wr at_).getD 0 ∧ (e.tx (((mget e.wr at_).getD 0).toNat - 1)).strict = true
  ·rw [if_pos hk]
   have hkl := strict_lt hk.2
   have hS1 := hS.note i (((mget e.wr at_).getD 0).toNat - 1)
   obtain ⟨kk, hkk⟩ : ∃ kk, kk = ((mget e.wr at_).getD 0).toNat - 1 := ⟨_, rfl⟩
   rw [← hkk] at hkl hS1 ⊢
   by_cases hb : (e.note i kk).bad i kk = true
   ·rw [if_pos hb]
    simp only [Bool.false_eq_true, if_false]
    exact ⟨(h.weak (some i)).note hS (fun n k K l' h1 h2 => .inr ⟨l', h1, h2⟩) (mid_but (h.weak (some i)) (.inl rfl) (by rw [hs]; decide)), hS1⟩
   ·rw [if_neg hb]
    have hb' : (e.note i kk).bad i kk = false := by simpa using hb
    have h1 : Stern none (e.note i kk) T := h.note hS (fun n k K l' h1 h2 => .inr ⟨l', h1, h2⟩) (mid_good h hb')
    have ih := sawNew_stern l (N + 1) (e.note i kk) h1 hS1 (hok.note1 hi hkl) (by rw [Eng.note_len]; exact hi) (by rw [(note_all e i kk i).2.1]; exact hs)
    split
    ·rename_i hr
     rw [if_pos hr] at ih
     obtain ⟨i1, i2, i3, i4⟩ := ih
     refine ⟨i1, i2, fun n k h => i3 n k (note_ahead h), fun a ha k hw hst => ?_⟩
     rcases List.mem_cons.1 ha with rfl | ha
     ·have : kk = k := by rw [hkk, hw]; simp
      rw [← this]
      exact i3 _ _ (note_here hi hkl)
     ·exact i4 a ha k hw (by rw [strict_note]; exact hst)
    ·rename_i hr
     rw [if_neg hr] at ih
     exact ih
  ·rw [if_neg hk]
   have ih := sawNew_stern l N e h hS hok hi hs
   split
   ·rename_i hr
    rw [if_pos hr] at ih
    obtain ⟨i1, i2, i3, i4⟩ := ih
    refine ⟨i1, i2, i3, fun a ha k hw hst => ?_⟩
    rcases List.mem_cons.1 ha with rfl | ha
    ·exfalso
     refine hk ⟨by rw [hw]; simp, ?_⟩
     rw [hw]
     simp only [Option.getD_some]
     rw [show ((k : Int) + 1).toNat - 1 = k by omega]; exact hst
    ·exact i4 a ha k hw hst
   ·rename_i hr
    rw [if_neg hr] at ih
    exact ih
theorem mid_alive {a b : Nat} (h : Stern none e T) (ha : (e.tx a).state ≠ 2) (hb : (e.tx b).state ≠ 2) (n : Nat) (h2 : ((e.note a b).tx n).state = 2) (hf : ∃ c ∈ ((e.note a b).tx n).fore, ((e.note a b).tx c).state ≠ 3 ∧ some c ≠ none) (hg : ∃ c ∈ ((e.note a b).tx n).aft, ((e.note a b).tx c).state ≠ 3 ∧ some c ≠ none) : False := by
 have hst := fun j => (note_all e a b j).2.1
 obtain ⟨c, hc, hc1, hc2⟩ := hf
 obtain ⟨d, hd, hd1, hd2⟩ := hg
 rw [hst] at h2 hc1 hd1
 rw [note_fore, if_neg (by rintro ⟨rfl, _⟩; exact hb h2)] at hc
 rw [note_aft, if_neg (by rintro ⟨rfl, _⟩; exact ha h2)] at hd
 exact h.mid n h2 ⟨c, hc, hc1, hc2⟩ ⟨d, hd, hd1, hd2⟩
theorem sawOpen_stern {key : Int} : ∀ (l : List Nat) (N : Nat) (e : Eng), Stern none e T → Sure e T → OkT N e U → i < e.txs.length → (e.tx i).state = 0 →
  Stern none (sawOpen i key l e) T ∧ Sure (sawOpen i key l e) T ∧ AheadUp e (sawOpen i key l e) ∧ ∀ k ∈ l, k ≠ i → (e.tx k).wrote key = true → (e.tx k).strict = true → (e.tx k).alive = true → ahead (sawOpen i key l e) i k
 | [], N, e, h, hS, hok, hi, hs => ⟨h, hS, fun _ _ h => h, by simp⟩
 | j :: l, N, e, h, hS, hok, hi, hs => by
  unfold sawOpen
  by_cases hc : ((e.tx j).wrote key && decide (j ≠ i) && (e.tx j).strict && (e.tx j).alive) = true
  ·rw [if_pos hc]
   simp only [Bool.and_eq_true, decide_eq_true_eq] at hc
   obtain ⟨⟨⟨c1, c2⟩, c3⟩, c4⟩ := hc
   have hjl := strict_lt c3
   have h1 : Stern none (e.note i j) T := h.note hS (fun n k K l' h1 h2 => .inr ⟨l', h1, h2⟩) (mid_alive h (by rw [hs]; decide) (by intro h2; simp [Tx.alive, h2] at c4))
   obtain ⟨i1, i2, i3, i4⟩ := sawOpen_stern l (N + 1) (e.note i j) h1 (hS.note i j) (hok.note1 hi hjl) (by rw [Eng.note_len]; exact hi) (by rw [(note_all e i j i).2.1]; exact hs)
   refine ⟨i1, i2, fun n k h => i3 n k (note_ahead h), fun k hk d1 d2 d3 d4 => ?_⟩
   rcases List.mem_cons.1 hk with rfl | hk
   ·exact i3 _ _ (note_here hi hjl)
   ·obtain ⟨_, n2, _, _, _, n6, _⟩ := note_all e i j k
    exact i4 k hk d1 (by unfold Tx.wrote at *; rw [n6]; exact d2) (by rw [strict_note]; exact d3) (by rw [alive_of_state n2]; exact d4)
  ·rw [if_neg hc]
   obtain ⟨i1, i2, i3, i4⟩ := sawOpen_stern l N e h hS hok hi hs
   refine ⟨i1, i2, i3, fun k hk d1 d2 d3 d4 => ?_⟩
   rcases List.mem_cons.1 hk with rfl | hk
   ·exact absurd (by simp [d1, d2, d3, d4]) hc
   ·exact i4 k hk d1 d2 d3 d4
theorem Stern.red (h : Stern none e []) (hS : Sure e []) (hok : OkT N e []) (n key : Int) : Stern none (e.read n key).1 [] := by
 have hc := read_case e n key
 generalize e.read n key = r at hc
 have hbase : ∀ i, i < e.txs.length → (e.tx i).state = 0 → keyOk key → Stern none (e.noted i key) (asks e.txs.length i key) ∧ Sure (e.noted i key) (asks e.txs.length i key) ∧ ((e.noted i key).tx i).state = 0 := fun i hi hs hK =>
  ⟨h.noted hi hs hK, (hS.noted (i := i) key).sub fun t ht => .inr (by
   unfold asks at ht
   obtain ⟨k, _, rfl⟩ := List.mem_map.1 ht
   exact ⟨_, _, _, rfl⟩), (noted_tx e i key (·.state) (fun _ _ => rfl) i).trans hs⟩
 cases hc with
 | err x h0 h8 => exact h
 | own i v hn hi hs hv => exact h
 | plain i hn hi hs hv hk hl => exact absurd (h.two i hi) hl
 | seen i hn hi hs hv hk hl hr =>
  obtain ⟨b1, b2, b3⟩ := hbase i hi hs hk
  have hi1 : i < (e.noted i key).txs.length := by rw [noted_len]; exact hi
  have hN := sawNew_stern (newerL ((e.noted i key).row key) ((e.noted i key).tx i).start) (N + 1) (e.noted i key) b1 b2 (hok.noted1 hi key) hi1 b3
  obtain ⟨g1, g2, g3, _⟩ := sawNew_ok (newerL ((e.noted i key).row key) ((e.noted i key).tx i).start) (N + 1) (e.noted i key) (hok.noted1 hi key) hi1
  have hflag : (sawNew i (newerL ((e.noted i key).row key) ((e.noted i key).tx i).start) (e.noted i key)).2 = true := by
   unfold Eng.sees at hr
   dsimp only at hr
   split at hr
   ·assumption
   ·exact hr
  rw [if_pos hflag] at hN
  obtain ⟨n1, n2, n3, n4⟩ := hN
  have heq : ((e.noted i key).sees i key).1 = sawOpen i key (List.range (sawNew i (newerL ((e.noted i key).row key) ((e.noted i key).tx i).start) (e.noted i key)).1.txs.length) (sawNew i (newerL ((e.noted i key).row key) ((e.noted i key).tx i).start) (e.noted i key)).1 := by
   unfold Eng.sees
   dsimp only
   rw [if_pos hflag]
  obtain ⟨o1, o2, o3, o4⟩ := sawOpen_stern (key := key) (List.range (sawNew i (newerL ((e.noted i key).row key) ((e.noted i key).tx i).start) (e.noted i key)).1.txs.length) _ _ n1 n2 g1 (by rw [g2]; exact hi1) (by rw [g3]; exact b3)
  show Stern none ((e.noted i key).sees i key).1 []
  have hsame : Same (e.noted i key) ((e.noted i key).sees i key).1 := sees_keep (P := fun f => Same (e.noted i key) f) (fun f a b hf => hf.note a b) (.refl _)
  have hstate : ∀ k, (((e.noted i key).sees i key).1.tx k).state = (e.tx k).state := fun k => by
   rw [(sees_ok (hok.noted1 hi key) hi1 key).2.2.1 k]; exact noted_tx e i key (·.state) (fun _ _ => rfl) k
  have hkeep : ∀ k, ((sawNew i (newerL ((e.noted i key).row key) ((e.noted i key).tx i).start) (e.noted i key)).1.tx k).state = (e.tx k).state := fun k => by
   rw [g3]; exact noted_tx e i key (·.state) (fun _ _ => rfl) k
  have hsw : ∀ (f : Eng), (∀ k, (f.tx k).writes = (e.tx k).writes) → ∀ k, (f.tx k).wrote key = (e.tx k).wrote key := fun f hf k => by unfold Tx.wrote; rw [hf]
  have hw1 : ∀ k, ((sawNew i (newerL ((e.noted i key).row key) ((e.noted i key).tx i).start) (e.noted i key)).1.tx k).writes = (e.tx k).writes := fun k =>
   sawNew_keep (P := fun f => (f.tx k).writes = (e.tx k).writes) (fun f a b hf => by rw [(note_all f a b k).2.2.2.2.2.1]; exact hf) _ _ (noted_tx e i key (·.writes) (fun _ _ => rfl) k)
  have hl1 : ∀ k, ((sawNew i (newerL ((e.noted i key).row key) ((e.noted i key).tx i).start) (e.noted i key)).1.tx k).level = (e.tx k).level := fun k =>
   sawNew_keep (P := fun f => (f.tx k).level = (e.tx k).level) (fun f a b hf => by rw [(note_all f a b k).1]; exact hf) _ _ (noted_tx e i key (·.level) (fun _ _ => rfl) k)
  rw [heq] at hsame hstate ⊢
  refine o1.retask fun n' k K l hn' h3 h4 h5 h6 hnk h7 h8 => .inl ?_
  obtain ⟨m1, hKK, rfl⟩ := mem_asks.1 h7
  obtain rfl := hKK.symm
  simp only [List.mem_singleton] at h8
  subst h8
  rw [hstate] at h3 h4
  have hw2 : (e.tx k).wrote key = true := by
   have := sawOpen_keep (P := fun f => (f.tx k).writes = (e.tx k).writes) (fun f a b hf => by rw [(note_all f a b k).2.2.2.2.2.1]; exact hf) (i := n') (key := key) (List.range (sawNew n' (newerL ((e.noted n' key).row key) ((e.noted n' key).tx n').start) (e.noted n' key)).1.txs.length) _ (hw1 k)
   unfold Tx.wrote at *
   rw [← this]; exact h5
  have hstr : (e.tx k).strict = true := by unfold Tx.strict; simp [h.two k m1, h4]
  cases ha : (e.tx k).alive with
  | true =>
   refine o4 k (List.mem_range.2 (by rw [g2, noted_len]; exact m1)) (fun x => hnk x.symm) ?_ ?_ ?_
   ·unfold Tx.wrote at *; rw [hw1]; exact hw2
   ·unfold Tx.strict at *; rw [hkeep, hl1]; exact hstr
   ·rw [alive_of_state (hkeep k)]; exact ha
  | false =>
   have hk2 : (e.tx k).state = 2 := by
    have := (hok.at m1).state
    simp only [Tx.alive, decide_eq_false_iff_not] at ha
    omega
   have hov : (e.tx n').begun < (e.tx k).ended := by
    have h9 := h6.2
    have h10 : ¬ (e.tx k).ended < (e.tx n').begun := fun h10 => h9 ⟨by rw [hstate]; exact hk2, by
     rw [hsame.alike.ended k ((noted_tx e n' key (·.state) (fun _ _ => rfl) k).trans hk2), (hsame.fix n').2.2.1, noted_tx e n' key (·.ended) (fun _ _ => rfl) k, noted_tx e n' key (·.begun) (fun _ _ => rfl) n']; exact h10⟩
    have := h.apart n' k hi m1 ha
    omega
   obtain ⟨a, a1, a2⟩ := h.newv n' k key hi (state_alive hs) hk2 hov hw2
   refine o3 _ _ (n4 a ?_ k a2 ?_)
   ·show a ∈ newerL (e.row key) ((e.noted n' key).tx n').start
    rw [noted_tx e n' key (·.start) (fun _ _ => rfl) n']; exact a1
   ·unfold Tx.strict at *
    rw [noted_tx e n' key (·.level) (fun _ _ => rfl) k, noted_tx e n' key (·.state) (fun _ _ => rfl) k]; exact hstr
 | gone i hn hi hs hv hk hl hr =>
  obtain ⟨b1, b2, b3⟩ := hbase i hi hs hk
  have hi1 : i < (e.noted i key).txs.length := by rw [noted_len]; exact hi
  have hN := sawNew_stern (newerL ((e.noted i key).row key) ((e.noted i key).tx i).start) (N + 1) (e.noted i key) b1 b2 (hok.noted1 hi key) hi1 b3
  have hflag : ¬ (sawNew i (newerL ((e.noted i key).row key) ((e.noted i key).tx i).start) (e.noted i key)).2 = true := fun hf => by
   unfold Eng.sees at hr
   dsimp only at hr
   rw [if_pos hf] at hr
   cases hr
  rw [if_neg hflag] at hN
  have heq : ((e.noted i key).sees i key).1 = (sawNew i (newerL ((e.noted i key).row key) ((e.noted i key).tx i).start) (e.noted i key)).1 := by
   unfold Eng.sees
   dsimp only
   rw [if_neg hflag]
  obtain ⟨g1, g2, g3, _⟩ := sees_ok (hok.noted1 hi key) hi1 key
  have hal : (((e.noted i key).sees i key).1.tx i).alive = true := by
   rw [alive_of_state (g3 i)]; exact state_alive b3
  rw [← heq] at hN
  have hil : i < ((e.noted i key).sees i key).1.txs.length := by rw [g2]; exact hi1
  have h1 := hN.1.left (.inr rfl) hN.2 hil hal 13
  have hself : ((((e.noted i key).sees i key).1.left i 13).tx i).state = 3 := by rw [left_tx, if_pos ⟨rfl, hil⟩]
  have h2 : Stern none (((e.noted i key).sees i key).1.left i 13) ((((e.noted i key).sees i key).1.heirs i).map .hand) := h1.retask fun n' k K l _ h3 _ _ _ _ h7 h8 => by
   exfalso
   rcases List.mem_append.1 h7 with h7 | h7
   ·obtain ⟨_, _, h9⟩ := List.mem_map.1 h7; cases h9
   ·obtain ⟨_, _, rfl⟩ := mem_asks.1 h7
    simp only [List.mem_singleton] at h8
    subst h8
    exact h3 hself
  have hS0 : Sure ((e.noted i key).sees i key).1 [] := hN.2.sub (by simp)
  have hS1 := hS0.left g1 hil hal (by simp) 13
  rw [List.append_nil] at hS1
  exact (stern_rule.goes g1 hil hal 13 ⟨hS1, h2⟩).2
theorem same_want (hi : (e.tx i).alive = true) (w : Int × Int) (t : Tbl) : Same e ((e.wanting i w).table t) := by
 have h := (Same.refl e).upd hi (fun x => { x with want := w }) (fun _ => ⟨rfl, rfl, rfl, rfl⟩) (.inl (by simpa [Tx.alive] using hi))
 exact ⟨h.V, h.last, h.wr, h.hist, h.len, h.fix, h.over, h.live, h.count⟩
theorem Stern.still {T' : List Task} (h : Stern none e []) (hS : Sure e []) (hs : Same e e') (hf : ∀ j, (e'.tx j).fore = (e.tx j).fore ∧ (e'.tx j).aft = (e.tx j).aft ∧ (e'.tx j).writes = (e.tx j).writes) : Stern none e' T' :=
 (h.same hs hS (fun j => (hf j).1) (fun j => (hf j).2.1) (fun j => not_dead hs) (fun n k K _ h4 => .inl (by unfold Tx.wrote at *; rw [← (hf k).2.2]; exact h4)) (fun k K l hl => by simp at hl)).none_of
theorem Stern.wrote (h : Stern none e []) (hS : Sure e []) (hok : OkT N e []) (n key value : Int) : Stern none (e.write n key value).1 [] := by
 have hc := write_case hok n key value
 have hS' := hS.wrote hok n key value
 generalize e.write n key value = r at hc hS'
 have hwf : ∀ (i : Nat) (w : Int × Int) (t : Tbl) j, (((e.wanting i w).table t).tx j).fore = (e.tx j).fore ∧ (((e.wanting i w).table t).tx j).aft = (e.tx j).aft ∧ (((e.wanting i w).table t).tx j).writes = (e.tx j).writes := fun i w t j =>
  ⟨wanting_tx e i w (·.fore) (fun _ _ => rfl) j, wanting_tx e i w (·.aft) (fun _ _ => rfl) j, wanting_tx e i w (·.writes) (fun _ _ => rfl) j⟩
 have hlw : ∀ (i : Nat) (w : Int × Int) (t : Tbl), ((e.wanting i w).table t).txs.length = e.txs.length := fun i w t => Eng.upd_len ..
 cases hc with
 | err x h0 => exact h
 | cycle i hn hi hs hk hv =>
  have ha : (((e.wanting i (key, value)).table e.t).tx i).alive = true := (wanting_tx e i _ (·.alive) (fun _ _ => rfl) i).trans (state_alive hs)
  have h1 : Stern none ((e.wanting i (key, value)).table e.t) [] := h.still hS (same_want (state_alive hs) _ _) (hwf i _ _)
  have h2 := hS.wanting hok hs (key, value)
  have h3 : Sure ((e.wanting i (key, value)).table e.t) [] := h2.table (fun _ _ h => h) h2.wantk
  exact h1.goes h3 (cycle_ok hok hi hk hv) (by rw [hlw]; exact hi) ha 11
 | waits i a hn hi hs hk hv hh ha =>
  have hal : (((e.wanting i (key, value)).table (waitT e.t ((i : Int) + 1) key)).tx i).alive = true := (wanting_tx e i _ (·.alive) (fun _ _ => rfl) i).trans (state_alive hs)
  have hsame := (same_want (e := e) (state_alive hs) (key, value) (waitT e.t ((i : Int) + 1) key)).upd hal (fun x => { x with state := 1 }) (fun _ => ⟨rfl, rfl, rfl, rfl⟩) (.inl (by simp [Tx.alive]))
  refine h.still hS hsame fun j => ?_
  obtain ⟨w1, w2, w3⟩ := hwf i (key, value) (waitT e.t ((i : Int) + 1) key) j
  exact ⟨(Eng.upd_keep (·.fore) (fun x => { x with state := 1 }) (fun _ => rfl) j).trans w1, (Eng.upd_keep (·.aft) (fun x => { x with state := 1 }) (fun _ => rfl) j).trans w2, (Eng.upd_keep (·.writes) (fun x => { x with state := 1 }) (fun _ => rfl) j).trans w3⟩
 | puts i t' hn hi hs hk hv ht r hr =>
  have h1 : Stern none ((e.wanting i (key, value)).table t') [.put i (key, value)] := h.still hS (same_want (state_alive hs) _ _) (hwf i _ _)
  obtain ⟨p1, p2, p3⟩ := put_ok hok hi hs hk hv ht
  exact (stern_rule.putsE p1 ⟨sure_put hS hok hi hs ht, h1⟩).2
theorem Stern.over2 (h : Stern none e []) (hS : Sure e []) (hok : OkT N e []) (hi : i < e.txs.length) (hs : (e.tx i).state = 0) (hm : e.middle i = false) : Stern none ((e.over2 i).lets i) (((e.over2 i).heirs i).map .hand) := by
 have ha := state_alive hs
 have hx : ∀ {β : Type} (g : Tx → β) (_ : ∀ x s c, g { x with state := s, ended := c } = g x) (j : Nat), g (((e.over2 i).lets i).tx j) = g (e.tx j) := fun g hg j => by
  rw [over2_tx]; split
  ·exact hg _ _ _
  ·rfl
 have x1 := hx (·.level) (fun _ _ _ => rfl)
 have x3 := hx (·.start) (fun _ _ _ => rfl)
 have x4 := hx (·.begun) (fun _ _ _ => rfl)
 have x6 := fun K => hx (·.wrote K) (fun _ _ _ => rfl)
 have x7 := hx (·.fore) (fun _ _ _ => rfl)
 have x8 := hx (·.aft) (fun _ _ _ => rfl)
 have x9 := hx (·.reads) (fun _ _ _ => rfl)
 have x10 := hx (·.writes) (fun _ _ _ => rfl)
 have hself : (((e.over2 i).lets i).tx i).state = 2 ∧ (((e.over2 i).lets i).tx i).ended = e.count + 1 := by rw [over2_tx, if_pos ⟨rfl, hi⟩]; exact ⟨rfl, rfl⟩
 have hother : ∀ j, j ≠ i → ((e.over2 i).lets i).tx j = e.tx j := fun j hj => by rw [over2_tx, if_neg (fun x => hj x.1.symm)]
 have hlen := over2_len e i
 have hcount : ((e.over2 i).lets i).count = e.count + 1 := rfl
 have hlast : ((e.over2 i).lets i).last = (e.told i).last := rfl
 obtain ⟨l1, l2, l3⟩ := told_last hok hi hS.lastc
 have hrow : ∀ K, keyOk K → ((e.over2 i).lets i).row K = e.row K ++ (match mget (e.tx i).writes K with | some v => [(e.last + 1, v)] | none => []) := fun K hK => told_row hok hi hS.lastc hS.rows hK
 obtain ⟨t1, t2, t3, t4⟩ := told_is hok hi hS.lastc
 have hwr : ∀ a v, mget e.wr a = some v → mget ((e.over2 i).lets i).wr a = some v := fun a v hv => by
  show mget (e.told i).wr a = some v
  rw [t3]
  split
  ·exact hv
  ·rw [mget_put, if_neg]
   ·exact hv
   ·have := (h.wr a v hv).2; omega
 have hnew : ∀ {K v}, mget (e.tx i).writes K = some v → mget ((e.over2 i).lets i).wr (e.last + 1) = some ((i : Int) + 1) ∧ (e.told i).last = e.last + 1 := fun {K v} hv => by
  have hne : (e.tx i).written ≠ [] := fun x => by
   have := (mem_written (p := (K, v))).2 hv
   rw [x] at this; simp at this
  refine ⟨?_, by rw [t2, if_neg hne]⟩
  show mget (e.told i).wr _ = _
  rw [t3, if_neg hne, mget_put, if_pos rfl]
 have hbeg : ∀ n, n < e.txs.length → (e.tx n).begun ≤ e.count := fun n hn => (hS.cnt n hn).1
 have hend : ∀ n, n < e.txs.length → (e.tx n).ended ≤ e.count := fun n hn => (hS.cnt n hn).2.1
 have hi2 : ¬ (e.tx i).state = 2 := by rw [hs]; decide
 have hno : ∀ {K b}, b ≤ e.count → NoneOf e K b → NoneOf ((e.over2 i).lets i) K b := fun {K b} hb hn k h3 h4 => by
  by_cases hk : k = i
  ·subst hk; rw [hself.2]; omega
  ·rw [x6] at h4
   rw [hother k hk] at h3 ⊢
   exact hn k h3 h4
 have hlo : ∀ {K b f}, b ≤ e.count → LastOf e K b f → LastOf ((e.over2 i).lets i) K b f := fun {K b f} hb ⟨m0, m1, m2, m3⟩ => by
  have hfi : f ≠ i := by rintro rfl; exact hi2 m1
  refine ⟨by rw [hlen]; exact m0, by rw [hother f hfi]; exact m1, by rw [hother f hfi]; exact m2, fun k hk h3 h4 => ?_⟩
  by_cases hki : k = i
  ·subst hki; right; rw [hself.2]; omega
  ·rw [x6] at h4
   rw [hother k hki] at h3 ⊢
   rw [hother f hfi]
   exact m3 k hk h3 h4
 have hsh : ∀ {K b r}, b ≤ e.count → Shows e K b r → Shows ((e.over2 i).lets i) K b r := fun {K b r} hb hs => by
  cases r with
  | none => exact hno hb hs
  | some p =>
   obtain ⟨f, f1, f2, f3⟩ := hs
   exact ⟨f, hwr _ _ f1, by rw [x10]; exact f2, hlo hb f3⟩
 have hst : ∀ j, (((e.over2 i).lets i).tx j).state ≠ 3 ↔ (e.tx j).state ≠ 3 := fun j => by
  by_cases hj : j = i
  ·subst hj; rw [hself.1, hs]; decide
  ·rw [hother j hj]
 refine ⟨fun j hj => ?_, fun j k hj hk hd => ?_, fun a v hv => ?_, fun n hn hal K hK => ?_, fun K hK => ?_, fun j k K hj hal hk hlt hw => ?_, fun n hn hstn r hr => ?_, fun n k K hnk hn h3 h4 h5 h6 h7 => ?_, fun n hn ⟨a, ha1, ha2, _⟩ ⟨b, hb1, hb2, _⟩ => ?_⟩
 ·rw [x1]; exact h.two j (by rw [← hlen]; exact hj)
 ·rw [hlen] at hj hk
  rw [x4]
  by_cases hki : k = i
  ·subst hki; rw [hself.2]; have := hbeg j hj; omega
  ·rw [hother k hki] at hd ⊢; exact h.apart j k hj hk hd
 ·have hv' : mget (e.told i).wr a = some v := hv
  rw [hlast]
  rw [t3] at hv'
  split at hv'
  ·have := h.wr a v hv'; omega
  ·rename_i hne
   rw [mget_put] at hv'
   split at hv'
   ·rename_i hal
    have := hok.last
    rw [t2, if_neg hne]; omega
   ·have := h.wr a v hv'; omega
 ·rw [hlen] at hn
  have hni : n ≠ i := by rintro rfl; simp [Tx.alive, hself.1] at hal
  rw [x4, x3, hrow K hK]
  rw [hother n hni] at hal
  have h0 := hsh (hbeg n hn) (h.cur n hn hal K hK)
  have hstart := (hS.cnt n hn).2.2
  cases hv : mget (e.tx i).writes K with
  | none => simp only [List.append_nil]; exact h0
  | some v =>
   simp only
   rw [readV_snoc, if_neg (by omega)]; exact h0
 ·rw [hlast, hrow K hK, hcount]
  cases hv : mget (e.tx i).writes K with
  | some v =>
   obtain ⟨n1, n2⟩ := hnew hv
   simp only
   rw [readV_snoc, n2, if_pos (Int.le_refl _)]
   refine ⟨i, n1, by rw [x10]; exact hv, by rw [hlen]; exact hi, hself.1, by rw [hself.2]; omega, fun k hk h3 h4 => ?_⟩
   left
   have hkl := two_lt h3
   rw [hlen] at hkl
   rw [hother k hk, hself.2]
   have := hend k hkl
   omega
  | none =>
   simp only [List.append_nil]
   rw [readV_up (hS.rows.row K).2 l1]
   have h0 := h.top K hK
   have hnw : (e.tx i).wrote K = false := by unfold Tx.wrote; rw [hv]; rfl
   cases hr : readV (e.row K) e.last with
   | none =>
    rw [hr] at h0
    intro k h3 h4
    by_cases hki : k = i
    ·subst hki; rw [x6, hnw] at h4; cases h4
    ·have hkl := two_lt h3
     rw [hlen] at hkl
     rw [x6] at h4
     rw [hother k hki] at h3
     have : e.count + 1 < (e.tx k).ended := h0 k h3 h4
     have := hend k hkl
     omega
   | some p =>
    rw [hr] at h0
    obtain ⟨f, f1, f2, m0, m1, m2, m3⟩ := h0
    have hfi : f ≠ i := by rintro rfl; exact hi2 m1
    refine ⟨f, hwr _ _ f1, by rw [x10]; exact f2, by rw [hlen]; exact m0, by rw [hother f hfi]; exact m1, by rw [hother f hfi]; omega, fun k hk h3 h4 => ?_⟩
    by_cases hki : k = i
    ·subst hki; rw [x6, hnw] at h4; cases h4
    ·have hkl := two_lt h3
     rw [hlen] at hkl
     rw [x6] at h4
     rw [hother k hki] at h3 ⊢
     rw [hother f hfi]
     rcases m3 k hk h3 h4 with h5 | h5
     ·exact .inl h5
     ·have := hend k hkl; omega
 ·rw [hlen] at hj
  have hji : j ≠ i := by rintro rfl; simp [Tx.alive, hself.1] at hal
  rw [x6] at hw
  rw [x4] at hlt
  rw [hother j hji] at hal
  rw [x3, hrow K (hok.wrote_ok hw), newerL_append]
  by_cases hki : k = i
  ·subst hki
   have hw' := hw
   unfold Tx.wrote at hw'
   obtain ⟨v, hv⟩ := Option.isSome_iff_exists.1 hw'
   refine ⟨e.last + 1, List.mem_append_right _ ?_, (hnew hv).1⟩
   rw [hv]
   have := (hS.cnt j hj).2.2
   simp [newerL]
   omega
  ·rw [hother k hki] at hk hlt
   obtain ⟨a, a1, a2⟩ := h.newv j k K hj hal hk hlt hw
   exact ⟨a, List.mem_append_left _ a1, hwr _ _ a2⟩
 ·rw [hlen] at hn
  rw [x9] at hr
  rw [x4]
  have h0 := h.reads n hn ((hst n).1 hstn) r hr
  refine ⟨h0.1, ?_⟩
  rcases h0.2 with ⟨r1, r2⟩ | ⟨f, r1, r2, r3⟩
  ·exact .inl ⟨r1, hno (hbeg n hn) r2⟩
  ·exact .inr ⟨f, r1, by rw [x6]; exact r2, hlo (hbeg n hn) r3⟩
 ·rw [hlen] at hn
  rw [hst] at h3 h4
  have h5' : (e.tx n).saw K = true := by unfold Tx.saw at *; rw [← x9]; exact h5
  rw [x6] at h6
  have hov : overlap e n k := by
   obtain ⟨o1, o2⟩ := h7
   rw [x4] at o1 o2
   refine ⟨fun ⟨a, b⟩ => ?_, fun ⟨a, b⟩ => ?_⟩
   ·have hni : n ≠ i := by rintro rfl; exact hi2 a
    rw [hother n hni] at o1
    exact o1 ⟨a, b⟩
   ·have hki : k ≠ i := by rintro rfl; exact hi2 a
    rw [hother k hki] at o2
    exact o2 ⟨a, b⟩
  rcases h.rw n k K hnk hn h3 h4 h5' h6 hov with ⟨h9, h10⟩ | ⟨l, h9, _⟩
  ·exact .inl ⟨by rw [x8]; exact h9, by rw [x7]; exact h10⟩
  ·simp at h9
 ·rw [hst] at ha2 hb2
  rw [x7] at ha1
  rw [x8] at hb1
  by_cases hni : n = i
  ·subst hni
   have : e.middle n = true := middle_iff.2 ⟨⟨a, ha1, ha2⟩, b, hb1, hb2⟩
   rw [hm] at this; cases this
  ·rw [hother n hni] at hn
   exact h.mid n hn ⟨a, ha1, ha2, by simp⟩ ⟨b, hb1, hb2, by simp⟩
theorem Stern.committed (h : Stern none e []) (hS : Sure e []) (hok : OkT N e []) (n : Int) : Stern none (e.commit n).1 [] := by
 by_cases h0 : e.ready n = 0
 ·obtain ⟨i, rfl, hi, hs⟩ := ready_at h0
  rw [commit_eq e i h0]
  have hm : e.middle i = false := by
   have hi2 : ((i : Int) + 1).toNat - 1 = i := by omega
   unfold Eng.ready at h0
   by_cases he : e.err ((i : Int) + 1) true ≠ 0
   ·rw [if_pos he] at h0; exact absurd h0 he
   ·rw [if_neg he, hi2] at h0
    by_cases hc : (e.tx i).level = 2 ∧ e.middle i = true
    ·rw [if_pos hc] at h0; cases h0
    ·cases hm : e.middle i with
     | false => rfl
     | true => exact absurd ⟨h.two i hi, hm⟩ hc
  exact (stern_rule.frees hok hi (state_alive hs) ⟨hS.over2 hok hi (state_alive hs), h.over2 hS hok hi hs hm⟩).2
 ·unfold Eng.commit
  rw [if_pos h0]
  simp only
  split
  ·rename_i h13
   obtain ⟨i, rfl, hi, hs⟩ := ready_13 h13
   have hi2 : ((i : Int) + 1).toNat - 1 = i := by omega
   rw [hi2]
   exact h.goes hS hok hi (state_alive hs) 13
  ·exact h
theorem Stern.aborted (h : Stern none e []) (hS : Sure e []) (hok : OkT N e []) (n : Int) : Stern none (e.abort n).1 [] := by
 rcases abort_case e n with ⟨x, _, hx⟩ | ⟨i, rfl, hi, hs, hx⟩
 ·rw [hx]; exact h
 ·rw [hx]; exact h.goes hS hok hi (by simp [Tx.alive]; omega) 0
theorem Stern.swept (h : Stern none e []) (hS : Sure e []) : Stern none e.sweep.1 [] := by
 refine ⟨h.two, h.apart, h.wr, fun n hn ha K hK => ?_, fun K hK => ?_, fun j k K hj ha hk hlt hw => ?_, h.reads, h.rw, h.mid⟩
 ·have hf := floor_le (e := e) hn ha (by rw [h.two n hn]; decide)
  have := (sweep_rel hS.rows hf K).read (Int.le_refl _)
  show Shows e K _ (readV (e.sweep.1.row K) (e.tx n).start)
  rw [← this]; exact h.cur n hn ha K hK
 ·have := (sweep_rel hS.rows (floor_last e) K).read (Int.le_refl _)
  show Shows e K _ (readV (e.sweep.1.row K) e.last)
  rw [← this]; exact h.top K hK
 ·have hf := floor_le (e := e) hj ha (by rw [h.two j hj]; decide)
  have := (sweep_rel hS.rows hf K).newer (Int.le_refl _)
  rw [show ((e.sweep.1).tx j).start = (e.tx j).start from rfl, ← this]
  exact h.newv j k K hj ha hk hlt hw
end
end Go.Proofs.YtcbokjocahnlcaaGreatDoor
/- interleafkeep's tale, when all are strict: how much there is in all; in which order what committed ones did is told; what each one read. No walk in sight. -/
namespace Go.Proofs.YtcbokjocahnlcaaGreatDoor
open Go Go.RowKit Go.Sep
section
variable {e e' e0 : Eng} {i j : Nat} {N : Nat} {T U : List Task} {t : Tale}
def Tx.load (x : Tx) : Nat := x.reads.length + x.writes.length + (if x.state = 1 then 1 else 0)
def Eng.load (e : Eng) : Nat := (e.txs.map Tx.load).sum
def puts1 : Task → Nat
 | .put _ _ => 1
 | _ => 0
def loadT (T : List Task) : Nat := (T.map puts1).sum
theorem sum_modify (g : Tx → Nat) (f : Tx → Tx) : ∀ (l : List Tx) (i : Nat) (h : i < l.length), ((l.modify i f).map g).sum + g l[i] = (l.map g).sum + g (f l[i])
 | a :: l, 0, _ => by simp only [List.modify_zero_cons, List.map_cons, List.sum_cons, List.getElem_cons_zero]; omega
 | a :: l, i + 1, h => by
  have := sum_modify g f l i (by simpa using h)
  simp only [List.modify_succ_cons, List.map_cons, List.sum_cons, List.getElem_cons_succ]; omega
theorem load_upd (hi : i < e.txs.length) (f : Tx → Tx) : (e.upd i f).load + (e.tx i).load = e.load + (f (e.tx i)).load := by
 have := sum_modify Tx.load f e.txs i hi
 have e1 : e.txs[i] = e.tx i := by unfold Eng.tx; simp [hi]
 rw [e1] at this
 exact this
theorem load_keep (f : Tx → Tx) (hf : ∀ x, (f x).load = x.load) : (e.upd i f).load = e.load := by
 by_cases hi : i < e.txs.length
 ·have := load_upd hi f
  rw [hf] at this; omega
 ·unfold Eng.upd Eng.load
  simp only
  rw [List.modify_eq_self (by omega)]
theorem load_note (e : Eng) (a b : Nat) : (e.note a b).load = e.load := by
 unfold Eng.note
 rw [load_keep (fun x => { x with fore := x.fore ++ [a] }) (fun _ => rfl), load_keep (fun x => { x with aft := x.aft ++ [b] }) (fun _ => rfl)]
theorem loadT_hands (l : List (Int × Int)) (T : List Task) : loadT (l.map .hand ++ T) = loadT T := by
 unfold loadT
 rw [List.map_append, List.sum_append, List.map_map]
 have : ((l.map (puts1 ∘ Task.hand)).sum) = 0 := by
  induction l with
  | nil => rfl
  | cons a l ih => rw [List.map_cons, List.sum_cons, ih]; rfl
 rw [this, Nat.zero_add]
theorem load_left (hi : i < e.txs.length) (why : Int) : (e.left i why).load ≤ e.load := by
 have := load_upd hi (fun x => { x with state := 3, why := why, ended := e.count + 1 })
 have h2' : ∀ x : Tx, (Tx.load { x with state := 3, why := why, ended := e.count + 1 }) ≤ x.load := fun x => by unfold Tx.load; simp
 have h2 := h2' (e.tx i)
 have h3 : (e.left i why).load = (e.upd i (fun x => { x with state := 3, why := why, ended := e.count + 1 })).load := rfl
 omega
theorem put_length (D : List (Int × Int)) (k v : Int) : (mput D k v).length ≤ D.length + 1 := by
 unfold mput
 split
 ·simp
 ·simp
theorem load_wput (hi : i < e.txs.length) (w : Int × Int) : (e.wput i w).load ≤ e.load + 1 := by
 have := load_upd hi (fun x => { x with writes := mput x.writes w.1 w.2 })
 have h2' : ∀ x : Tx, (Tx.load { x with writes := mput x.writes w.1 w.2 }) ≤ x.load + 1 := fun x => by
  unfold Tx.load
  have := put_length x.writes w.1 w.2
  simp only
  omega
 have h2 := h2' (e.tx i)
 have h3 : (e.wput i w).load = (e.upd i (fun x => { x with writes := mput x.writes w.1 w.2 })).load := rfl
 omega
theorem load_rule (B : Nat) : Rule fun e T => e.load + loadT T ≤ B where
 hand N e w T h p := by
  obtain ⟨h1, _, h3, _⟩ := h.hand_lt
  have := load_upd h1 (fun x => { x with state := 0 })
  have h4' : ∀ x : Tx, x.state = 1 → (Tx.load { x with state := 0 }) + 1 = x.load := fun x hx => by unfold Tx.load; simp [hx]
  have h4 := h4' (e.tx (w.2.toNat - 1)) h3
  have h5 : (e.opens (w.2.toNat - 1)).load = (e.upd (w.2.toNat - 1) (fun x => { x with state := 0 })).load := rfl
  simp only [loadT, List.map_cons, List.sum_cons, puts1] at p ⊢
  omega
 late N e i w T h hl p := by
  rw [loadT_hands]
  have := load_left h.put_lt.1 10
  simp only [loadT, List.map_cons, List.sum_cons, puts1] at p ⊢
  omega
 put N e i w T h hl h2 p := by
  have := load_wput h.put_lt.1 w
  simp only [loadT, List.map_cons, List.sum_cons, puts1] at p ⊢
  omega
 puts N e i w T h hl h2 p := by
  have := load_wput h.put_lt.1 w
  simp only [loadT, List.map_cons, List.sum_cons, puts1] at p ⊢
  omega
 asked N e i key T h p := by simp only [loadT, List.map_cons, List.sum_cons, puts1] at p ⊢; omega
 skip N e i j key l T h hs p := by simp only [loadT, List.map_cons, List.sum_cons, puts1] at p ⊢; omega
 note N e i j key l T h hs hb p := by rw [load_note]; simp only [loadT, List.map_cons, List.sum_cons, puts1] at p ⊢; omega
 wrong N e i j key l T h hs hb p := by
  rw [loadT_hands]
  have h1 := load_left (e := e.note j i) (i := i) (by rw [Eng.note_len]; exact h.ask_lt.1) 13
  rw [load_note] at h1
  simp only [loadT, List.map_cons, List.sum_cons, puts1] at p ⊢
  omega
theorem load_goes (hok : OkT N e []) (hi : i < e.txs.length) (ha : (e.tx i).alive = true) (why : Int) : (e.goes i why).load ≤ e.load := by
 have h1 := (load_rule e.load).goes hok hi ha why (by
  have := loadT_hands (e.heirs i) []
  rw [List.append_nil] at this
  rw [this]
  exact load_left hi why)
 simpa [loadT] using h1
theorem load_read (hok : OkT N e []) (n key : Int) : (e.read n key).1.load ≤ e.load + 1 := by
 have hc := read_case e n key
 generalize e.read n key = r at hc
 have hn : ∀ i, i < e.txs.length → (e.noted i key).load = e.load + 1 := fun i hi => by
  have := load_upd hi (fun x => { x with reads := x.reads ++ [(key, (mget e.wr (((readV (e.row key) (e.asOf i)).map (·.1)).getD 0)).getD 0)] })
  have h2' : ∀ (x : Tx) (r : Int × Int), (Tx.load { x with reads := x.reads ++ [r] }) = x.load + 1 := fun x r => by unfold Tx.load; simp; omega
  have h2 := h2' (e.tx i) (key, (mget e.wr (((readV (e.row key) (e.asOf i)).map (·.1)).getD 0)).getD 0)
  have h3 : (e.noted i key).load = (e.upd i (fun x => { x with reads := x.reads ++ [(key, (mget e.wr (((readV (e.row key) (e.asOf i)).map (·.1)).getD 0)).getD 0)] })).load := rfl
  omega
 have hs : ∀ i, ((e.noted i key).sees i key).1.load = (e.noted i key).load := fun i => sees_keep (P := fun f => f.load = (e.noted i key).load) (fun f a b hf => by rw [load_note]; exact hf) rfl
 cases hc with
 | err => exact Nat.le_succ _
 | own => exact Nat.le_succ _
 | plain i hn' hi => exact Nat.le_of_eq (hn i hi)
 | seen i hn' hi => show ((e.noted i key).sees i key).1.load ≤ _; rw [hs, hn i hi]; exact Nat.le_refl _
 | gone i hn' hi hs' hv hk hl hr =>
  have h1 := hok.noted1 hi key
  have hi1 : i < (e.noted i key).txs.length := by rw [noted_len]; exact hi
  obtain ⟨g1, g2, g3, _⟩ := sees_ok h1 hi1 key
  have hal : (((e.noted i key).sees i key).1.tx i).alive = true := by
   rw [alive_of_state (g3 i)]
   rw [noted_tx e i key (·.alive) (fun _ _ => rfl)]; exact state_alive hs'
  have h2 := load_goes g1 (by rw [g2]; exact hi1) hal 13
  rw [hs, hn i hi] at h2
  exact h2
theorem load_write (hok : OkT N e []) (n key value : Int) : (e.write n key value).1.load ≤ e.load + 1 := by
 have hc := write_case hok n key value
 generalize e.write n key value = r at hc
 have hw : ∀ i w t, ((e.wanting i w).table t).load = e.load := fun i w t => load_keep (fun x => { x with want := w }) (fun _ => rfl)
 cases hc with
 | err => exact Nat.le_succ _
 | cycle i hn hi hs hk hv =>
  have ha : (((e.wanting i (key, value)).table e.t).tx i).alive = true := (wanting_tx e i _ (·.alive) (fun _ _ => rfl) i).trans (state_alive hs)
  have := load_goes (cycle_ok hok hi hk hv) (by show i < (e.wanting i (key, value)).txs.length; rw [show (e.wanting i (key, value)).txs.length = e.txs.length from Eng.upd_len ..]; exact hi) ha 11
  rw [hw] at this
  exact Nat.le_trans this (Nat.le_succ _)
 | waits i a hn hi hs hk hv hh ha =>
  have hl : i < ((e.wanting i (key, value)).table (waitT e.t ((i : Int) + 1) key)).txs.length := by show i < (e.wanting i (key, value)).txs.length; rw [show (e.wanting i (key, value)).txs.length = e.txs.length from Eng.upd_len ..]; exact hi
  have := load_upd hl (fun x => { x with state := 1 })
  rw [hw] at this
  have h2 : ∀ x : Tx, (Tx.load { x with state := 1 }) ≤ x.load + 1 := fun x => by unfold Tx.load; simp only; split <;> omega
  have h3 := h2 (((e.wanting i (key, value)).table (waitT e.t ((i : Int) + 1) key)).tx i)
  show (((e.wanting i (key, value)).table (waitT e.t ((i : Int) + 1) key)).upd i fun x => { x with state := 1 }).load ≤ _
  omega
 | puts i t' hn hi hs hk hv ht r hr =>
  have := (load_rule (e.load + 1)).putsE (put_ok hok hi hs hk hv ht).1 (by rw [hw]; simp [loadT, puts1])
  simpa [loadT] using this
theorem load_over2 (hok : OkT N e []) (hi : i < e.txs.length) (hs : (e.tx i).state = 0) : ((e.over2 i).frees i).load ≤ e.load := by
 have h1 := (load_rule e.load).frees hok hi (state_alive hs) (by
  have := loadT_hands ((e.over2 i).heirs i) []
  rw [List.append_nil] at this
  rw [this]
  have h2 : ((e.over2 i).lets i).load = ((e.told i).upd i (fun x => { x with state := 2, ended := e.count + 1 })).load := rfl
  have h3 := load_upd (e := e.told i) (i := i) (by rw [(told_txs e i).1]; exact hi) (fun x => { x with state := 2, ended := e.count + 1 })
  have h4 : (e.told i).load = e.load := by unfold Eng.load; rw [(told_txs e i).1]
  have h5 : (e.told i).tx i = e.tx i := by unfold Eng.tx; rw [(told_txs e i).1]
  rw [h5, h4] at h3
  have h6' : ∀ x : Tx, x.state = 0 → (Tx.load { x with state := 2, ended := e.count + 1 }) = x.load := fun x hx => by unfold Tx.load; simp [hx]
  have h6 := h6' (e.tx i) hs
  show _ + 0 ≤ _
  omega)
 simpa [loadT] using h1
theorem load_commit (hok : OkT N e []) (n : Int) : (e.commit n).1.load ≤ e.load := by
 by_cases h0 : e.ready n = 0
 ·obtain ⟨i, rfl, hi, hs⟩ := ready_at h0
  rw [commit_eq e i h0]
  exact load_over2 hok hi hs
 ·unfold Eng.commit
  rw [if_pos h0]
  simp only
  split
  ·rename_i h13
   obtain ⟨i, rfl, hi, hs⟩ := ready_13 h13
   have hi2 : ((i : Int) + 1).toNat - 1 = i := by omega
   rw [hi2]
   exact load_goes hok hi (state_alive hs) 13
  ·exact Nat.le_refl _
theorem load_abort (hok : OkT N e []) (n : Int) : (e.abort n).1.load ≤ e.load := by
 rcases abort_case e n with ⟨x, _, hx⟩ | ⟨i, rfl, hi, hs, hx⟩
 ·rw [hx]; exact Nat.le_refl _
 ·rw [hx]; exact load_goes hok hi (by simp [Tx.alive]; omega) 0
theorem load_begin (e : Eng) (level : Int) : (e.begin_ level).1.load = e.load := by
 rcases begin_out e level with ⟨_, _, b3⟩ | ⟨_, b2⟩
 ·rw [b3]
  unfold Eng.load Eng.grown
  simp only [List.map_append, List.sum_append, List.map_cons, List.map_nil, List.sum_cons, List.sum_nil]
  rfl
 ·rw [b2]
def NoNew (e e' : Eng) : Prop := ∀ j, (e'.tx j).state = 2 → (e.tx j).state = 2
theorem Same.noNew (h : Same e e') : NoNew e e' := fun j hj => (h.alike.two j).1 hj
theorem NoNew.trans {a b c : Eng} (h : NoNew a b) (g : NoNew b c) : NoNew a c := fun j hj => h j (g j hj)
structure HistS (e : Eng) (C : List Nat) : Prop where
 sorted : C.Pairwise fun a b => (e.tx a).ended < (e.tx b).ended
 mem : ∀ i, i ∈ C ↔ (e.tx i).state = 2
 hist : e.hist = C.flatMap fun c : Nat => toldL ((c : Int) + 1) (e.tx c)
theorem HistS.start : HistS Eng.zero [] := ⟨List.Pairwise.nil, fun i => by simp [Eng.zero, Eng.tx, Tx.zero], rfl⟩
theorem toldL_congr {n : Int} {x y : Tx} (h1 : x.reads = y.reads) (h2 : x.writes = y.writes) : toldL n x = toldL n y := by
 unfold toldL Tx.written; rw [h1, h2]
theorem HistS.later {C : List Nat} (h : HistS e C) (hl : Later e e') (hh : e'.hist = e.hist) (hn : NoNew e e') : HistS e' C := by
 have hover : ∀ c ∈ C, (e'.tx c).state = 2 ∧ (e'.tx c).ended = (e.tx c).ended ∧ (e'.tx c).writes = (e.tx c).writes ∧ (e'.tx c).reads = (e.tx c).reads := fun c hc => by
  have h2 := (h.mem c).1 hc
  obtain ⟨o1, o2, o3, o4⟩ := hl.over c (two_lt h2) (by simp [Tx.alive, h2])
  exact ⟨by rw [o1]; exact h2, o2, o3, o4⟩
 refine ⟨?_, fun i => ⟨fun hi => (hover i hi).1, fun hi => (h.mem i).2 (hn i hi)⟩, ?_⟩
 ·refine h.sorted.imp_of_mem fun {a b} ha hb hab => ?_
  rw [(hover a ha).2.1, (hover b hb).2.1]; exact hab
 ·rw [hh, h.hist]
  have : ∀ l : List Nat, (∀ c ∈ l, c ∈ C) → (l.flatMap fun c : Nat => toldL ((c : Int) + 1) (e.tx c)) = l.flatMap fun c : Nat => toldL ((c : Int) + 1) (e'.tx c) := by
   intro l
   induction l with
   | nil => intro _; rfl
   | cons c l ih =>
    intro hl
    rw [List.flatMap_cons, List.flatMap_cons, ih fun d hd => hl d (List.mem_cons_of_mem _ hd)]
    rw [toldL_congr (hover c (hl c (List.mem_cons_self ..))).2.2.2.symm (hover c (hl c (List.mem_cons_self ..))).2.2.1.symm]
  exact this C fun _ h => h
theorem HistS.over2 {C : List Nat} (h : HistS e C) (hS : Sure e []) (hok : OkT N e []) (hi : i < e.txs.length) (hs : (e.tx i).state = 0) : HistS ((e.over2 i).lets i) (C ++ [i]) := by
 have hself : ((e.over2 i).lets i).tx i = { e.tx i with state := 2, ended := e.count + 1 } := by rw [over2_tx, if_pos ⟨rfl, hi⟩]
 have hother : ∀ j, j ≠ i → ((e.over2 i).lets i).tx j = e.tx j := fun j hj => by rw [over2_tx, if_neg (fun x => hj x.1.symm)]
 have hni : ∀ c ∈ C, c ≠ i := fun c hc x => by
  subst x
  have := (h.mem c).1 hc
  omega
 refine ⟨?_, fun j => ?_, ?_⟩
 ·rw [List.pairwise_append]
  refine ⟨h.sorted.imp_of_mem fun {a b} ha hb hab => ?_, by simp, fun a ha b hb => ?_⟩
  ·rw [hother a (hni a ha), hother b (hni b hb)]; exact hab
  ·simp only [List.mem_singleton] at hb
   subst hb
   rw [hother a (hni a ha), hself]
   have := (hS.cnt a (two_lt ((h.mem a).1 ha))).2.1
   show _ < e.count + 1
   omega
 ·rw [List.mem_append, List.mem_singleton]
  by_cases hj : j = i
  ·subst hj; simp [hself]
  ·rw [hother j hj, ← h.mem j]; simp [hj]
 ·have h1 : ((e.over2 i).lets i).hist = e.hist ++ toldL ((i : Int) + 1) (e.tx i) := (told_is hok hi hS.lastc).2.2.2
  rw [h1, h.hist, List.flatMap_append, List.flatMap_cons, List.flatMap_nil, List.append_nil]
  congr 1
  ·have : ∀ l : List Nat, (∀ c ∈ l, c ∈ C) → (l.flatMap fun c : Nat => toldL ((c : Int) + 1) (e.tx c)) = l.flatMap fun c : Nat => toldL ((c : Int) + 1) (((e.over2 i).lets i).tx c) := by
    intro l
    induction l with
    | nil => intro _; rfl
    | cons c l ih =>
     intro hl
     rw [List.flatMap_cons, List.flatMap_cons, ih fun d hd => hl d (List.mem_cons_of_mem _ hd), hother c (hni c (hl c (List.mem_cons_self ..)))]
   exact this C fun _ h => h
  ·rw [hself]; exact toldL_congr rfl rfl
theorem noNew_read (hok : OkT N e []) (n key : Int) : NoNew e (e.read n key).1 := by
 have hc := read_case e n key
 generalize e.read n key = r at hc
 have hn : ∀ i, NoNew e (e.noted i key) := fun i j hj => by rw [noted_tx e i key (·.state) (fun _ _ => rfl)] at hj; exact hj
 have hs : ∀ i, Same (e.noted i key) ((e.noted i key).sees i key).1 := fun i => sees_keep (P := fun f => Same (e.noted i key) f) (fun f a b hf => hf.note a b) (.refl _)
 cases hc with
 | err => exact fun _ h => h
 | own => exact fun _ h => h
 | plain i => exact hn i
 | seen i => exact (hn i).trans (hs i).noNew
 | gone i hn' hi hs' hv hk hl hr =>
  have h1 := hok.noted1 hi key
  have hi1 : i < (e.noted i key).txs.length := by rw [noted_len]; exact hi
  obtain ⟨g1, g2, g3, _⟩ := sees_ok h1 hi1 key
  have hal : (((e.noted i key).sees i key).1.tx i).alive = true := by
   rw [alive_of_state (g3 i)]
   rw [noted_tx e i key (·.alive) (fun _ _ => rfl)]; exact state_alive hs'
  exact ((hn i).trans (hs i).noNew).trans (same_goes g1 (by rw [g2]; exact hi1) hal 13).noNew
theorem noNew_write (hok : OkT N e []) (n key value : Int) : NoNew e (e.write n key value).1 := by
 have hc := write_case hok n key value
 generalize e.write n key value = r at hc
 cases hc with
 | err => exact fun _ h => h
 | cycle i hn hi hs hk hv =>
  have ha : (((e.wanting i (key, value)).table e.t).tx i).alive = true := (wanting_tx e i _ (·.alive) (fun _ _ => rfl) i).trans (state_alive hs)
  exact (same_want (state_alive hs) _ _).noNew.trans (same_goes (cycle_ok hok hi hk hv) (by show i < (e.wanting i (key, value)).txs.length; rw [show (e.wanting i (key, value)).txs.length = e.txs.length from Eng.upd_len ..]; exact hi) ha 11).noNew
 | waits i a hn hi hs hk hv hh ha =>
  have hal : (((e.wanting i (key, value)).table (waitT e.t ((i : Int) + 1) key)).tx i).alive = true := (wanting_tx e i _ (·.alive) (fun _ _ => rfl) i).trans (state_alive hs)
  exact ((same_want (e := e) (state_alive hs) (key, value) (waitT e.t ((i : Int) + 1) key)).upd hal (fun x => { x with state := 1 }) (fun _ => ⟨rfl, rfl, rfl, rfl⟩) (.inl (by simp [Tx.alive]))).noNew
 | puts i t' hn hi hs hk hv ht r hr => exact (same_want (state_alive hs) _ _).noNew.trans (same_puts (put_ok hok hi hs hk hv ht).1).noNew
theorem noNew_begin (e : Eng) (level : Int) : NoNew e (e.begin_ level).1 := by
 rcases begin_out e level with ⟨_, _, b3⟩ | ⟨_, b2⟩
 ·rw [b3]
  intro j hj
  have h1 := two_lt hj
  rw [Eng.grown_len] at h1
  by_cases h2 : j < e.txs.length
  ·rw [Eng.grown_tx h2] at hj; exact hj
  ·obtain rfl : j = e.txs.length := by omega
   rw [Eng.grown_last] at hj; exact absurd (show (0 : Int) = 2 from hj) (by decide)
 ·rw [b2]; exact fun _ h => h
theorem noNew_abort (hok : OkT N e []) (n : Int) : NoNew e (e.abort n).1 := by
 rcases abort_case e n with ⟨x, _, hx⟩ | ⟨i, rfl, hi, hs, hx⟩
 ·rw [hx]; exact fun _ h => h
 ·rw [hx]; exact (same_goes hok hi (by simp [Tx.alive]; omega) 0).noNew
theorem HistS.committed {C : List Nat} (h : HistS e C) (hS : Sure e []) (hok : OkT N e []) (n : Int) : ∃ C', HistS (e.commit n).1 C' := by
 by_cases h0 : e.ready n = 0
 ·obtain ⟨i, rfl, hi, hs⟩ := ready_at h0
  rw [commit_eq e i h0]
  have := same_frees hok hi (state_alive hs)
  exact ⟨_, (h.over2 hS hok hi hs).later this.later this.hist this.noNew⟩
 ·unfold Eng.commit
  rw [if_pos h0]
  simp only
  split
  ·rename_i h13
   obtain ⟨i, rfl, hi, hs⟩ := ready_13 h13
   have hi2 : ((i : Int) + 1).toNat - 1 = i := by omega
   rw [hi2]
   have := same_goes hok hi (state_alive hs) 13
   exact ⟨C, h.later this.later this.hist this.noNew⟩
  ·exact ⟨C, h⟩
end
end Go.Proofs.YtcbokjocahnlcaaGreatDoor
/- interleafkeep's tale, when all are strict: what holds of it, act by act; the edges of what committed ones did go one way. No walk in sight. -/
namespace Go.Proofs.YtcbokjocahnlcaaGreatDoor
open Go Go.RowKit Go.Sep
section
variable {e e' e0 : Eng} {i j : Nat} {N : Nat} {T U : List Task} {t : Tale}
def valOf (e : Eng) (r : Int × Int) : Int := if r.2 = 0 then -1 else (mget (e.tx (r.2.toNat - 1)).writes r.1).getD (-1)
theorem valOf_later (hl : Later e e') {b : Int} {r : Int × Int} (hr : ReadOk e b r) : valOf e' r = valOf e r := by
 unfold valOf
 rcases hr.2 with ⟨h1, _⟩ | ⟨f, h1, h2, h3⟩
 ·rw [if_pos h1, if_pos h1]
 ·have hf : r.2.toNat - 1 = f := by omega
  rw [hf]
  rw [(hl.over f h3.1 (by simp [Tx.alive, h3.2.1])).2.2.1]
structure StrictT (M : Nat) (t : Tale) : Prop where
 law : TaleL t
 stern : Stern none t.e []
 hist : ∃ C, HistS t.e C
 seen : ∀ i, i < t.recs.length → (t.e.tx i).state ≠ 3 → (t.one i).reads = (t.e.tx i).reads.map fun r => (r.1, valOf t.e r)
 load : t.e.load ≤ M
theorem StrictT.start : StrictT 0 .start := ⟨TaleL.start, Stern.start, ⟨_, HistS.start⟩, by simp [Tale.start], by simp [Tale.start, Eng.load, Eng.zero]⟩
theorem seen_one {M : Nat} (h : StrictT M t) (hl : Later t.e e') {i : Nat} (hi : i < t.recs.length) (hst : (e'.tx i).state ≠ 3) (hr : (e'.tx i).reads = (t.e.tx i).reads) : (t.one i).reads = (e'.tx i).reads.map fun r => (r.1, valOf e' r) := by
 have hie : i < t.e.txs.length := by rw [← h.law.len]; exact hi
 have hst0 : (t.e.tx i).state ≠ 3 := fun h3 => by
  rw [(hl.over i hie (by simp [Tx.alive, h3])).1] at hst; exact hst h3
 rw [h.seen i hi hst0, hr]
 refine List.map_congr_left fun r hr => ?_
 rw [valOf_later hl (h.stern.reads i hie hst0 r hr)]
theorem read_reads (hok : OkT N e []) (n key : Int) : ∀ j : Nat, n ≠ (j : Int) + 1 → ((e.read n key).1.tx j).reads = (e.tx j).reads := by
 intro j hj
 have hc := read_case e n key
 generalize e.read n key = r at hc
 have hn : ∀ i : Nat, n = (i : Int) + 1 → ((e.noted i key).tx j).reads = (e.tx j).reads := fun i hi => by unfold Eng.noted; rw [Eng.upd_ne (by rintro rfl; exact hj hi)]
 have hs : ∀ i, (((e.noted i key).sees i key).1.tx j).reads = ((e.noted i key).tx j).reads := fun i =>
  ((sees_keep (P := fun f => Same (e.noted i key) f) (fun f a b hf => hf.note a b) (.refl _) : Same (e.noted i key) ((e.noted i key).sees i key).1).fix j).2.2.2
 cases hc with
 | err => rfl
 | own => rfl
 | plain i hi => exact hn i hi
 | seen i hi => exact (hs i).trans (hn i hi)
 | gone i hi hil hs' hv hk hl hr =>
  have h1 := hok.noted1 hil key
  have hi1 : i < (e.noted i key).txs.length := by rw [noted_len]; exact hil
  obtain ⟨g1, g2, g3, _⟩ := sees_ok h1 hi1 key
  have hal : (((e.noted i key).sees i key).1.tx i).alive = true := by
   rw [alive_of_state (g3 i)]
   rw [noted_tx e i key (·.alive) (fun _ _ => rfl)]; exact state_alive hs'
  exact (((same_goes g1 (by rw [g2]; exact hi1) hal 13).fix j).2.2.2).trans ((hs i).trans (hn i hi))
theorem write_reads (hok : OkT N e []) (n key value : Int) (j : Nat) : ((e.write n key value).1.tx j).reads = (e.tx j).reads := by
 have hc := write_case hok n key value
 generalize e.write n key value = r at hc
 cases hc with
 | err => rfl
 | cycle i hn hi hs hk hv =>
  have ha : (((e.wanting i (key, value)).table e.t).tx i).alive = true := (wanting_tx e i _ (·.alive) (fun _ _ => rfl) i).trans (state_alive hs)
  exact (((same_goes (cycle_ok hok hi hk hv) (by show i < (e.wanting i (key, value)).txs.length; rw [show (e.wanting i (key, value)).txs.length = e.txs.length from Eng.upd_len ..]; exact hi) ha 11).fix j).2.2.2).trans ((same_want (state_alive hs) _ _).fix j).2.2.2
 | waits i a hn hi hs hk hv hh ha =>
  have hal : (((e.wanting i (key, value)).table (waitT e.t ((i : Int) + 1) key)).tx i).alive = true := (wanting_tx e i _ (·.alive) (fun _ _ => rfl) i).trans (state_alive hs)
  exact (((same_want (e := e) (state_alive hs) (key, value) (waitT e.t ((i : Int) + 1) key)).upd hal (fun x => { x with state := 1 }) (fun _ => ⟨rfl, rfl, rfl, rfl⟩) (.inl (by simp [Tx.alive]))).fix j).2.2.2
 | puts i t' hn hi hs hk hv ht r hr => exact ((same_puts (put_ok hok hi hs hk hv ht).1).fix j).2.2.2.trans ((same_want (state_alive hs) _ _).fix j).2.2.2
theorem over2_reads (e : Eng) (i j : Nat) : (((e.over2 i).lets i).tx j).reads = (e.tx j).reads := by
 rw [over2_tx]; split <;> rfl
theorem commit_reads (hok : OkT N e []) (n : Int) (j : Nat) : ((e.commit n).1.tx j).reads = (e.tx j).reads := by
 by_cases h0 : e.ready n = 0
 ·obtain ⟨i, rfl, hi, hs⟩ := ready_at h0
  rw [commit_eq e i h0]
  exact ((same_frees hok hi (state_alive hs)).fix j).2.2.2.trans (over2_reads e i j)
 ·unfold Eng.commit
  rw [if_pos h0]
  simp only
  split
  ·rename_i h13
   obtain ⟨i, rfl, hi, hs⟩ := ready_13 h13
   have hi2 : ((i : Int) + 1).toNat - 1 = i := by omega
   rw [hi2]
   exact ((same_goes hok hi (state_alive hs) 13).fix j).2.2.2
  ·rfl
theorem abort_reads (hok : OkT N e []) (n : Int) (j : Nat) : ((e.abort n).1.tx j).reads = (e.tx j).reads := by
 rcases abort_case e n with ⟨x, _, hx⟩ | ⟨i, rfl, hi, hs, hx⟩
 ·rw [hx]
 ·rw [hx]; exact ((same_goes hok hi (by simp [Tx.alive]; omega) 0).fix j).2.2.2
theorem dead_rule (i : Nat) : Rule fun e _ => (e.tx i).state = 3 where
 hand N e w T h p := by
  unfold Eng.opens; rw [Eng.upd_tx]; split
  ·rename_i hc
   have h3 := h.hand_lt.2.2.1
   rw [hc.1] at h3
   omega
  ·exact p
 late N e j w T h hl p := by
  rw [left_tx]; split
  ·rfl
  ·exact p
 put N e j w T h hl h2 p := by
  rw [wput_tx]; split
  ·exact p
  ·exact p
 puts N e j w T h hl h2 p := by
  rw [wput_tx]; split
  ·exact p
  ·exact p
 asked N e j key T h p := p
 skip N e j k key l T h hs p := p
 note N e j k key l T h hs hb p := by rw [Eng.note_state]; exact p
 wrong N e j k key l T h hs hb p := by
  rw [left_tx]; split
  ·rfl
  ·rw [Eng.note_state]; exact p
theorem goes_dead (hok : OkT N e []) (hi : i < e.txs.length) (ha : (e.tx i).alive = true) (why : Int) : ((e.goes i why).tx i).state = 3 :=
 (dead_rule i).goes hok hi ha why (by rw [left_tx, if_pos ⟨rfl, hi⟩])
theorem read_adds {M : Nat} (h : StrictT M t) (hok : OkT N t.e []) {x : Nat} (hx : x < t.recs.length) {K : Int} (hK : keyOk K) :
  ((((t.e.read ((x : Int) + 1) K).2.2 ≠ 0 ∧ (t.e.read ((x : Int) + 1) K).2.2 ≠ 8) ∨ mget (t.one x).own K ≠ none) ∧ (((t.e.read ((x : Int) + 1) K).1.tx x).reads = (t.e.tx x).reads ∨ ((t.e.read ((x : Int) + 1) K).1.tx x).state = 3)) ∨
  (¬ ((t.e.read ((x : Int) + 1) K).2.2 ≠ 0 ∧ (t.e.read ((x : Int) + 1) K).2.2 ≠ 8) ∧ mget (t.one x).own K = none ∧ ∃ f : Int, ((t.e.read ((x : Int) + 1) K).1.tx x).reads = (t.e.tx x).reads ++ [(K, f)] ∧ ReadOk t.e (t.e.tx x).begun (K, f) ∧ valOf t.e (K, f) = if (t.e.read ((x : Int) + 1) K).2.2 = 8 then -1 else (t.e.read ((x : Int) + 1) K).2.1) := by
 have hxe : x < t.e.txs.length := by rw [← h.law.len]; exact hx
 have hc := read_case t.e ((x : Int) + 1) K
 generalize t.e.read ((x : Int) + 1) K = r at hc
 obtain ⟨r1, r2, r3, r4, r5⟩ := h.law.rec_ x hx
 have hopen : ∀ i : Nat, (x : Int) + 1 = (i : Int) + 1 → (t.e.tx i).state = 0 → i = x ∧ mget (t.one x).own K = mget (t.e.tx x).writes K := fun i hi hs => by
  obtain rfl : i = x := by omega
  refine ⟨rfl, ?_⟩
  rw [r2 (state_alive hs) K]
  unfold Eng.owns Tx.owns; simp [hs]
 have hsees : ∀ i, (((t.e.noted i K).sees i K).1.tx x).reads = ((t.e.noted i K).tx x).reads := fun i =>
  ((sees_keep (P := fun f => Same (t.e.noted i K) f) (fun f a b hf => hf.note a b) (.refl _) : Same (t.e.noted i K) ((t.e.noted i K).sees i K).1).fix x).2.2.2
 have hplain : ∀ i : Nat, i = x → (t.e.tx i).state = 0 → ∃ f : Int, ((t.e.noted i K).tx x).reads = (t.e.tx x).reads ++ [(K, f)] ∧ ReadOk t.e (t.e.tx x).begun (K, f) ∧ valOf t.e (K, f) = if (if (readV (t.e.row K) (t.e.asOf i)).isSome then (0 : Int) else 8) = 8 then -1 else ((readV (t.e.row K) (t.e.asOf i)).map (·.2)).getD 0 := fun i hi hs => by
  subst hi
  have hself : (t.e.noted i K).tx i = { t.e.tx i with reads := (t.e.tx i).reads ++ [(K, (mget t.e.wr (((readV (t.e.row K) (t.e.asOf i)).map (·.1)).getD 0)).getD 0)] } := by unfold Eng.noted; rw [Eng.upd_self hxe]
  refine ⟨_, by rw [hself], ?_⟩
  have h1 := h.stern.cur i hxe (state_alive hs) K hK
  have has : t.e.asOf i = (t.e.tx i).start := by unfold Eng.asOf; rw [if_neg (by rw [h.stern.two i hxe]; decide)]
  rw [has]
  cases hv : readV (t.e.row K) (t.e.tx i).start with
  | none =>
   rw [hv] at h1
   have h0 : mget t.e.wr 0 = none := by
    cases hg : mget t.e.wr 0 with
    | none => rfl
    | some v => have := (h.stern.wr 0 v hg).1; omega
   simp only [Option.map_none, Option.getD_none, h0]
   exact ⟨⟨hK, .inl ⟨rfl, h1⟩⟩, by simp [valOf]⟩
  | some p =>
   rw [hv] at h1
   obtain ⟨f, f1, f2, f3⟩ := h1
   simp only [Option.map_some, Option.getD_some, f1]
   refine ⟨⟨hK, .inr ⟨f, rfl, ?_, f3⟩⟩, ?_⟩
   ·unfold Tx.wrote; simp only; rw [f2]; rfl
   ·unfold valOf
    simp only
    rw [if_neg (by omega), show ((f : Int) + 1).toNat - 1 = f by omega, f2]
    simp
 cases hc with
 | err y h0 h8 => exact .inl ⟨.inl ⟨h0, h8⟩, .inl rfl⟩
 | own i v hn hi hs hv =>
  obtain ⟨rfl, ho⟩ := hopen i hn hs
  exact .inl ⟨.inr (by rw [ho, hv]; simp), .inl rfl⟩
 | plain i hn hi hs hv hk hl => exact absurd (h.stern.two i hi) hl
 | seen i hn hi hs hv hk hl hr =>
  obtain ⟨rfl, ho⟩ := hopen i hn hs
  obtain ⟨f, f1, f2, f3⟩ := hplain i rfl hs
  refine .inr ⟨?_, by rw [ho, hv], f, by rw [hsees i]; exact f1, f2, f3⟩
  simp only
  split <;> simp
 | gone i hn hi hs hv hk hl hr =>
  obtain ⟨rfl, ho⟩ := hopen i hn hs
  refine .inl ⟨.inl ⟨(by decide : (13 : Int) ≠ 0), (by decide : (13 : Int) ≠ 8)⟩, .inr ?_⟩
  have h1 := hok.noted1 hi K
  have hi1 : i < (t.e.noted i K).txs.length := by rw [noted_len]; exact hi
  obtain ⟨g1, g2, g3, _⟩ := sees_ok h1 hi1 K
  have hal : (((t.e.noted i K).sees i K).1.tx i).alive = true := by
   rw [alive_of_state (g3 i)]
   rw [noted_tx t.e i K (·.alive) (fun _ _ => rfl)]; exact state_alive hs
  exact goes_dead g1 (by rw [g2]; exact hi1) hal 13
variable {M : Nat} {rs : List Rec} {n' : Int}
theorem StrictT.acted (hrl : rs.length = t.recs.length) (hL : TaleL (Tale.overs { t with e := e', recs := rs, n := n', steps := t.steps + 1 })) (hst : Stern none e' []) (hh : ∃ C, HistS e' C) (hload : e'.load ≤ M + 1)
  (hs : ∀ i, i < t.recs.length → (e'.tx i).state ≠ 3 → ((rs[i]?).getD .zero).reads = (e'.tx i).reads.map fun r => (r.1, valOf e' r)) : StrictT (M + 1) (Tale.overs { t with e := e', recs := rs, n := n', steps := t.steps + 1 }) := by
 refine ⟨hL, hst, hh, fun i hi hsi => ?_, hload⟩
 rw [overs_len] at hi
 rw [overs_one _ hi, overStep_keep (fun r => r.reads) (fun _ _ => rfl)]
 exact hs i (by rw [← hrl]; exact hi) hsi
theorem StrictT.act_read (h : StrictT M t) (hok : OkT N t.e []) {x : Nat} (hx : x < t.recs.length) {K : Int} (hK : keyOk K) (hL : TaleL ((Tale.act { t with steps := t.steps + 1 } 1 x K).overs)) : StrictT (M + 1) ((Tale.act { t with steps := t.steps + 1 } 1 x K).overs) := by
 have hS := h.law.sure
 obtain ⟨C, hC⟩ := h.hist
 have hxe : x < t.e.txs.length := by rw [← h.law.len]; exact hx
 have hl := later_read hok ((x : Int) + 1) K
 have hst := h.stern.red hS hok ((x : Int) + 1) K
 have hC' : HistS (t.e.read ((x : Int) + 1) K).1 C := hC.later hl (still_read hok _ _).2.2.1 (noNew_read hok _ _)
 have hld : (t.e.read ((x : Int) + 1) K).1.load ≤ M + 1 := Nat.le_trans (load_read hok ((x : Int) + 1) K) (by have := h.load; omega)
 have hadd := read_adds h hok hx hK
 have hr := h.law.reads hx hK
 have hother : ∀ i, i ≠ x → ((t.e.read ((x : Int) + 1) K).1.tx i).reads = (t.e.tx i).reads := fun i hix => read_reads hok ((x : Int) + 1) K i (by omega)
 have hgo : Tale.act { t with steps := t.steps + 1 } 1 x K = Tale.read { t with steps := t.steps + 1 } x K := rfl
 rw [hgo] at hL ⊢
 unfold Tale.read at hL ⊢
 simp only at hL ⊢
 have hone : (Tale.one { t with steps := t.steps + 1 } x) = t.one x := rfl
 rw [hone] at hL ⊢
 have hsame : ((t.e.read ((x : Int) + 1) K).1.tx x).reads = (t.e.tx x).reads ∨ ((t.e.read ((x : Int) + 1) K).1.tx x).state = 3 → ∀ i, i < t.recs.length → ((t.e.read ((x : Int) + 1) K).1.tx i).state ≠ 3 → (t.one i).reads = ((t.e.read ((x : Int) + 1) K).1.tx i).reads.map fun r => (r.1, valOf (t.e.read ((x : Int) + 1) K).1 r) := fun hsm i hi hs3 => by
  refine seen_one h hl hi hs3 ?_
  by_cases hix : i = x
  ·subst hix
   rcases hsm with hsm | hsm
   ·exact hsm
   ·exact absurd hsm hs3
  ·exact hother i hix
 by_cases hb : (t.e.read ((x : Int) + 1) K).2.2 ≠ 0 ∧ (t.e.read ((x : Int) + 1) K).2.2 ≠ 8
 ·rw [if_pos hb] at hL ⊢
  rcases hadd with ⟨_, h2⟩ | ⟨h1, _⟩
  ·exact StrictT.acted (n' := t.n) (rs := t.recs) rfl hL hst ⟨C, hC'⟩ hld (hsame h2)
  ·exact absurd hb h1
 ·rw [if_neg hb] at hL ⊢
  rcases hr with hr | ⟨v, hv, hr⟩
  ·exact absurd hr hb
  ·rw [← hv] at hL ⊢
   cases hm : mget (t.one x).own K with
   | some w =>
    rw [hm] at hr hL hadd
    simp only at hr hL ⊢
    rw [show decide (v ≠ w) = false by simp [hr], marked_not] at hL ⊢
    rcases hadd with ⟨_, h2⟩ | ⟨_, h1, _⟩
    ·exact StrictT.acted (n' := t.n) (rs := t.recs) rfl hL hst ⟨C, hC'⟩ hld (hsame h2)
    ·cases h1
   | none =>
    rw [hm] at hr hL hadd
    simp only at hr hL ⊢
    rw [show decide (v ≠ if (t.one x).level = 0 then ofL t.e.allV K else ofL (t.one x).snap K) = false by simp [hr], marked_not] at hL ⊢
    rcases hadd with ⟨h1, _⟩ | ⟨_, _, f, f1, f2, f3⟩
    ·rcases h1 with h1 | h1
     ·exact absurd h1 hb
     ·exact absurd rfl h1
    ·refine StrictT.acted (n' := t.n) (rs := (t.updR x fun r => { r with reads := r.reads ++ [(K, v)] }).recs) (by simp [Tale.updR]) hL hst ⟨C, hC'⟩ hld fun i hi hs3 => ?_
     rw [updR_get]
     by_cases hix : i = x
     ·subst hix
      rw [if_pos ⟨rfl, hi⟩]
      have hst0 : (t.e.tx i).state ≠ 3 := fun h3 => by
       rw [(hl.over i hxe (by simp [Tx.alive, h3])).1] at hs3; exact hs3 h3
      simp only
      rw [f1, List.map_append, h.seen i hi hst0]
      congr 1
      ·refine List.map_congr_left fun r hr => ?_
       rw [valOf_later hl (h.stern.reads i hxe hst0 r hr)]
      ·simp only [List.map_cons, List.map_nil]
       rw [valOf_later hl f2, f3, hv]
     ·rw [if_neg (fun c => hix c.1)]
      exact seen_one h hl hi hs3 (hother i hix)
theorem StrictT.act_write (h : StrictT M t) (hok : OkT N t.e []) {x : Nat} (hx : x < t.recs.length) (K : Int) (hL : TaleL ((Tale.act { t with steps := t.steps + 1 } 2 x K).overs)) : StrictT (M + 1) ((Tale.act { t with steps := t.steps + 1 } 2 x K).overs) := by
 have hS := h.law.sure
 obtain ⟨C, hC⟩ := h.hist
 have hxe : x < t.e.txs.length := by rw [← h.law.len]; exact hx
 have hl := later_write hok ((x : Int) + 1) K (t.n + 1)
 have hst := h.stern.wrote hS hok ((x : Int) + 1) K (t.n + 1)
 have hC' : HistS (t.e.write ((x : Int) + 1) K (t.n + 1)).1 C := hC.later hl (still_write hok _ _ _).2.2.1 (noNew_write hok _ _ _)
 have hld : (t.e.write ((x : Int) + 1) K (t.n + 1)).1.load ≤ M + 1 := Nat.le_trans (load_write hok ((x : Int) + 1) K (t.n + 1)) (by have := h.load; omega)
 have hlen := write_len hok ((x : Int) + 1) K (t.n + 1)
 have hop := fun h0 => write_open hok hxe (K := K) (value := t.n + 1) h0
 have hs2 := state_at (e := (t.e.write ((x : Int) + 1) K (t.n + 1)).1) (i := x) (by rw [hlen]; exact hxe)
 have hs1 := state_at hxe
 have hgo : Tale.act { t with steps := t.steps + 1 } 2 x K = Tale.write { t with steps := t.steps + 1 } x K := rfl
 rw [hgo] at hL ⊢
 unfold Tale.write at hL ⊢
 simp only [hs2, hs1] at hL ⊢
 by_cases hc : (t.e.tx x).state = 0 ∧ (t.e.write ((x : Int) + 1) K (t.n + 1)).2.2 = 0
 ·rw [if_pos ⟨trivial, hc.1, hc.2⟩] at hL ⊢
  rw [show decide ((t.e.write ((x : Int) + 1) K (t.n + 1)).2.1 ≠ decide (((t.e.write ((x : Int) + 1) K (t.n + 1)).1.tx x).state = 0)) = false by simp [(hop hc.2).1], marked_not] at hL ⊢
  refine StrictT.acted (n' := t.n + 1) (rs := (t.updR x fun q => { q with own := mput q.own K (t.n + 1) }).recs) (by simp [Tale.updR]) hL hst ⟨C, hC'⟩ hld fun i hi hs3 => ?_
  rw [updR_get]
  have := seen_one h hl hi hs3 (write_reads hok _ _ _ i)
  split
  ·exact this
  ·exact this
 ·rw [if_neg (fun c => hc ⟨c.2.1, c.2.2⟩)] at hL ⊢
  exact StrictT.acted (n' := t.n + 1) (rs := t.recs) rfl hL hst ⟨C, hC'⟩ hld fun i hi hs3 => seen_one h hl hi hs3 (write_reads hok _ _ _ i)
theorem StrictT.does (h : StrictT M t) (hok : OkT N t.e []) (a : Act1) : StrictT (M + 1) (t.does a 2) := by
 have hL := h.law.does hok a 2
 have hS := h.law.sure
 obtain ⟨C, hC⟩ := h.hist
 have hload := h.load
 unfold Tale.does at hL ⊢
 simp only at hL ⊢
 by_cases h0 : a.what = 0
 ·rw [if_pos h0, if_neg (by decide)] at hL ⊢
  have hl := later_begin t.e 2
  have hC' : HistS (t.e.begin_ 2).1 C := hC.later hl (still_begin ..).2.2.1 (noNew_begin t.e 2)
  refine ⟨hL, by rw [tale_began_e]; exact h.stern.begun hS, by rw [tale_began_e]; exact ⟨C, hC'⟩, fun i hi hs3 => ?_, by rw [tale_began_e]; show (t.e.begin_ 2).1.load ≤ _; rw [load_begin]; omega⟩
  rw [tale_began_e] at hs3 ⊢
  have hs3 : ((t.e.begin_ 2).1.tx i).state ≠ 3 := hs3
  show _ = ((t.e.begin_ 2).1.tx i).reads.map fun r => (r.1, valOf (t.e.begin_ 2).1 r)
  unfold Tale.began at hi ⊢
  simp only at hi ⊢
  rcases begin_out t.e 2 with ⟨b1, b2, b3⟩ | ⟨b1, b2⟩
  ·rw [if_pos b1] at hi ⊢
   have hi : i < t.recs.length + 1 := by simpa using hi
   show (((t.recs ++ [(⟨2, t.e.allV, [], [], t.steps + 1, 0⟩ : Rec)])[i]?).getD Rec.zero).reads = _
   by_cases h1 : i < t.recs.length
   ·rw [List.getElem?_append_left h1]
    refine seen_one h hl h1 hs3 ?_
    rw [b3, Eng.grown_tx (by rw [← h.law.len]; exact h1)]
   ·obtain rfl : i = t.recs.length := by omega
    rw [b3, h.law.len, Eng.grown_last]
    simp [Eng.fresh, Tx.zero, ← h.law.len]
  ·rw [if_neg b1] at hi ⊢
   exact seen_one h hl hi hs3 (by rw [b2])
 ·rw [if_neg h0] at hL ⊢
  by_cases h5 : a.what = 5
  ·rw [if_pos h5] at hL ⊢
   have hl := later_sweep hS.rows
   exact ⟨hL, h.stern.swept hS, ⟨C, hC.later hl rfl fun _ h => h⟩, fun i hi hs3 => seen_one h hl hi hs3 rfl, by show t.e.load ≤ _; omega⟩
  ·rw [if_neg h5] at hL ⊢
   by_cases hr : t.recs = []
   ·rw [if_pos hr] at hL ⊢
    exact ⟨hL, h.stern, ⟨C, hC⟩, h.seen, by show t.e.load ≤ _; omega⟩
   ·rw [if_neg hr] at hL ⊢
    have hpos := List.length_pos_iff.2 hr
    have hp := pickN_lt a.tx (n := min 6 t.recs.length) (by omega)
    have hx : t.recs.length - pickN a.tx (min 6 t.recs.length) - 1 < t.recs.length := by omega
    have hK : keyOk (pickN a.key 4 : Int) := by have := pickN_lt a.key (n := 4) (by omega); exact ⟨by omega, by omega⟩
    generalize t.recs.length - pickN a.tx (min 6 t.recs.length) - 1 = x at hx hL ⊢
    generalize (pickN a.key 4 : Int) = K at hK hL ⊢
    by_cases h1 : a.what = 1
    ·rw [h1] at hL ⊢; exact h.act_read hok hx hK hL
    ·by_cases h2 : a.what = 2
     ·rw [h2] at hL ⊢; exact h.act_write hok hx K hL
     ·unfold Tale.act at hL ⊢
      rw [if_neg h1, if_neg h2] at hL ⊢
      by_cases h3 : a.what = 3
      ·rw [if_pos h3] at hL ⊢
       have hl := hS.later_commit hok ((x : Int) + 1)
       exact StrictT.acted (n' := t.n) (rs := t.recs) rfl hL (h.stern.committed hS hok _) (hC.committed hS hok _) (Nat.le_trans (load_commit hok _) (by omega)) fun i hi hs3 => seen_one h hl hi hs3 (commit_reads hok _ i)
      ·rw [if_neg h3] at hL ⊢
       by_cases h4 : a.what = 4
       ·rw [if_pos h4] at hL ⊢
        have hl := later_abort hok ((x : Int) + 1)
        exact StrictT.acted (n' := t.n) (rs := t.recs) rfl hL (h.stern.aborted hS hok _) ⟨C, hC.later hl (still_abort hok _).2.2.1 (noNew_abort hok _)⟩ (Nat.le_trans (load_abort hok _) (by omega)) fun i hi hs3 => seen_one h hl hi hs3 (abort_reads hok _ i)
       ·rw [if_neg h4] at hL ⊢
        exact StrictT.acted (n' := t.n) (rs := t.recs) rfl hL h.stern ⟨C, hC⟩ (by omega) fun i hi hs3 => seen_one h (.refl _) hi hs3 rfl
end
end Go.Proofs.YtcbokjocahnlcaaGreatDoor
namespace Go.Proofs.YtcbokjocahnlcaaGreatDoor
open Go Go.RowKit Go.Sep
section
variable {e : Eng} {N M : Nat} {C : List Nat} {t : Tale}
theorem wput_new {w : List Int} {x : Int} (h : x ∉ w) : wput w x = w ++ [x] := by
 unfold wput
 rw [if_neg]
 intro h2
 exact h (List.mem_of_getLast? h2)
theorem wput_twice (w : List Int) (x : Int) : wput (wput w x) x = wput w x := by
 have : (wput w x).getLast? = some x := by
  unfold wput
  split
  ·assumption
  ·simp
 show (if (wput w x).getLast? = some x then wput w x else wput w x ++ [x]) = _
 rw [if_pos this]
theorem wfold_none {K : Int} : ∀ (l : List Op1) (w : List Int), (∀ o ∈ l, ¬(o.wr = true ∧ o.key = K)) → l.foldl (wstep K) w = w
 | [], w, _ => rfl
 | o :: l, w, h => by
  simp only [List.foldl_cons]
  have h1 : wstep K w o = w := by unfold wstep; rw [if_neg (h o (List.mem_cons_self ..))]
  rw [h1]
  exact wfold_none l w fun o ho => h o (List.mem_cons_of_mem _ ho)
theorem wfold_some {K n : Int} : ∀ (l : List Op1) (w : List Int), (∀ o ∈ l, o.tx = n) → (∃ o ∈ l, o.wr = true ∧ o.key = K) → l.foldl (wstep K) w = wput w n
 | [], w, _, h => by obtain ⟨o, ho, _⟩ := h; simp at ho
 | o :: l, w, h1, h2 => by
  simp only [List.foldl_cons]
  have ht := h1 o (List.mem_cons_self ..)
  have h1' := fun o' ho' => h1 o' (List.mem_cons_of_mem _ ho')
  by_cases ho : o.wr = true ∧ o.key = K
  ·have hs : wstep K w o = wput w n := by unfold wstep; rw [if_pos ho, ht]
   rw [hs]
   by_cases h3 : ∃ o' ∈ l, o'.wr = true ∧ o'.key = K
   ·rw [wfold_some l _ h1' h3, wput_twice]
   ·exact wfold_none l _ fun o' ho' hc => h3 ⟨o', ho', hc⟩
  ·have hs : wstep K w o = w := by unfold wstep; rw [if_neg ho]
   rw [hs]
   refine wfold_some l w h1' ?_
   obtain ⟨o', ho', hc⟩ := h2
   rcases List.mem_cons.1 ho' with rfl | ho'
   ·exact absurd hc ho
   ·exact ⟨o', ho', hc⟩
theorem writers_told (l : List Op1) (n : Int) (x : Tx) (K : Int) : writers (l ++ toldL n x) K = if x.wrote K = true then wput (writers l K) n else writers l K := by
 unfold writers
 rw [List.foldl_append]
 by_cases h : x.wrote K = true
 ·rw [if_pos h]; exact wfold_some _ _ toldL_tx (toldL_wr.2 h)
 ·rw [if_neg h]; exact wfold_none _ _ fun o ho hc => h (toldL_wr.1 ⟨o, ho, hc⟩)
def numI (c : Nat) : Int := (c : Int) + 1
def wrotes (e : Eng) (C : List Nat) (K : Int) : List Nat := C.filter fun c => (e.tx c).wrote K
theorem writers_flat (e : Eng) (K : Int) (C : List Nat) : C.Nodup → writers (C.flatMap fun c : Nat => toldL ((c : Int) + 1) (e.tx c)) K = (wrotes e C K).map numI := by
 refine snoc_induct (P := fun C => C.Nodup → writers (C.flatMap fun c : Nat => toldL ((c : Int) + 1) (e.tx c)) K = (wrotes e C K).map numI) (fun _ => rfl) (fun C c ih hn => ?_) C
 rw [List.nodup_append] at hn
 have ih := ih hn.1
 have hc : c ∉ C := fun h => hn.2.2 c h c (by simp) rfl
 rw [List.flatMap_append, List.flatMap_cons, List.flatMap_nil, List.append_nil, writers_told, ih]
 unfold wrotes
 rw [List.filter_append]
 by_cases h : (e.tx c).wrote K = true
 ·rw [if_pos h, wput_new]
  ·simp [h, numI]
  ·intro h2
   obtain ⟨d, hd, h3⟩ := List.mem_map.1 h2
   unfold numI at h3
   obtain rfl : d = c := by omega
   exact hc (List.mem_filter.1 hd).1
 ·rw [if_neg h]
  simp [h]
structure Done (e : Eng) (C : List Nat) : Prop where
 ok : ∃ N, OkT N e []
 stern : Stern none e []
 sure : Sure e []
 hist : HistS e C
 span : ∀ i, (e.tx i).state = 2 → (e.tx i).begun < (e.tx i).ended
theorem StrictT.done (h : StrictT M t) (hok : OkT N t.e []) : ∃ C, Done t.e C := by
 obtain ⟨C, hC⟩ := h.hist
 exact ⟨C, ⟨N, hok⟩, h.stern, h.law.sure, hC, fun i hi => h.law.span i (by rw [h.law.len]; exact two_lt hi) (by simp [Tx.alive, hi])⟩
theorem Done.nodup (h : Done e C) : C.Nodup := h.hist.sorted.imp fun hab x => by subst x; omega
theorem Done.writers (h : Done e C) (K : Int) : writers e.hist K = (wrotes e C K).map numI := by rw [h.hist.hist]; exact writers_flat e K C h.nodup
theorem Done.sorted (h : Done e C) (K : Int) : (wrotes e C K).Pairwise fun a b => (e.tx a).ended < (e.tx b).ended := h.hist.sorted.sublist (List.filter_sublist)
theorem Done.mem (h : Done e C) {K : Int} {c : Nat} : c ∈ wrotes e C K ↔ (e.tx c).state = 2 ∧ (e.tx c).wrote K = true := by
 unfold wrotes
 rw [List.mem_filter, h.hist.mem]
theorem wrotes_nodup (h : Done e C) (K : Int) : (wrotes e C K).Nodup := (h.sorted K).imp fun hab x => by subst x; omega
theorem Done.lt (h : Done e C) {K : Int} {i j a b : Nat} (hi : (wrotes e C K)[i]? = some a) (hj : (wrotes e C K)[j]? = some b) (hij : i < j) : (e.tx a).ended < (e.tx b).ended := by
 obtain ⟨h1, rfl⟩ := List.getElem?_eq_some_iff.1 hi
 obtain ⟨h2, rfl⟩ := List.getElem?_eq_some_iff.1 hj
 exact List.pairwise_iff_getElem.1 (h.sorted K) i j h1 h2 hij
def rho (e : Eng) (c : Nat) : Int := if (e.tx c).aft.any e.there = true then (e.tx c).begun else (e.tx c).ended
theorem rho_le (h : Done e C) {c : Nat} (hc : (e.tx c).state = 2) : (e.tx c).begun ≤ rho e c ∧ rho e c ≤ (e.tx c).ended := by
 have := h.span c hc
 unfold rho
 split <;> omega
theorem rho_time (h : Done e C) {a b : Nat} (ha : (e.tx a).state = 2) (hb : (e.tx b).state = 2) (hab : (e.tx a).ended < (e.tx b).begun) : rho e a < rho e b := by
 have := (rho_le h ha).2
 have := (rho_le h hb).1
 omega
theorem rho_next (h : Done e C) {K : Int} {a b : Nat} (ha : (e.tx a).state = 2) (hb : (e.tx b).state = 2) (hwa : (e.tx a).wrote K = true) (hwb : (e.tx b).wrote K = true) (hab : (e.tx a).ended < (e.tx b).ended) : rho e a < rho e b := by
 have hne : b ≠ a := by rintro rfl; omega
 refine rho_time h ha hb (Classical.byContradiction fun hn => ?_)
 have h1 := h.stern.apart b a (two_lt hb) (two_lt ha) (by simp [Tx.alive, ha])
 have h2 : (e.tx b).begun < (e.tx a).ended := by omega
 have h3 := h.span a ha
 have := h.sure.apart b a K (two_lt hb) hne (by rw [h.stern.two b (two_lt hb)]; decide) (.inr ⟨hb, by rw [h.stern.two a (two_lt ha)]; decide, by omega⟩) ha h2 hwa
 rw [hwb] at this; cases this
theorem rho_over (h : Done e C) {K : Int} {n k : Nat} (hn : (e.tx n).state = 2) (hk : (e.tx k).state = 2) (hs : (e.tx n).saw K = true) (hw : (e.tx k).wrote K = true) (hnk : n ≠ k) (hb : (e.tx n).begun < (e.tx k).ended) : rho e n < rho e k := by
 by_cases ht : (e.tx n).ended < (e.tx k).begun
 ·exact rho_time h hn hk ht
 ·have ho : overlap e n k := ⟨fun x => ht x.2, fun x => by have := x.2; omega⟩
  rcases h.stern.rw n k K hnk (two_lt hn) (by rw [hn]; decide) (by rw [hk]; decide) hs hw ho with ⟨h1, h2⟩ | ⟨l, h1, _⟩
  ·have hn1 : (e.tx n).aft.any e.there = true := thereL_any.2 ⟨k, h1, by rw [hk]; decide⟩
   have hk1 : ¬ (e.tx k).aft.any e.there = true := fun h3 => by
    obtain ⟨b, hb1, hb2⟩ := thereL_any.1 h3
    exact h.stern.mid k hk ⟨n, h2, by rw [hn]; decide, by simp⟩ ⟨b, hb1, hb2, by simp⟩
   unfold rho
   rw [if_pos hn1, if_neg hk1]; exact hb
  ·simp at h1
theorem hist_mem (h : Done e C) {o : Op1} : o ∈ e.hist ↔ ∃ c : Nat, (e.tx c).state = 2 ∧ o ∈ toldL ((c : Int) + 1) (e.tx c) := by
 rw [h.hist.hist, List.mem_flatMap]
 constructor
 ·rintro ⟨c, h1, h2⟩; exact ⟨c, (h.hist.mem c).1 h1, h2⟩
 ·rintro ⟨c, h1, h2⟩; exact ⟨c, (h.hist.mem c).2 h1, h2⟩
theorem told_read {n : Int} {x : Tx} {o : Op1} (h : o ∈ toldL n x) (hw : o.wr = false) : o.tx = n ∧ (o.key, o.fr) ∈ x.reads := by
 unfold toldL at h
 rcases List.mem_append.1 h with h | h
 ·obtain ⟨r, hr, rfl⟩ := List.mem_map.1 h
  exact ⟨rfl, hr⟩
 ·obtain ⟨r, hr, rfl⟩ := List.mem_map.1 h
  cases hw
theorem idx_at {w : List Int} (hn : w.Nodup) {j : Nat} {f : Int} (hj : w[j]? = some f) : Lib.idxOf w f = j := by
 obtain ⟨h1, h2⟩ := List.getElem?_eq_some_iff.1 hj
 have := Lib.idxOf_hit w w.length j f h1 (Nat.le_refl _) (by simp [hj]) (fun i hi h3 => by
  have h4 : i < w.length := by omega
  have h5 : w.getD i 0 = w[i] := by simp [h4]
  rw [h5] at h3
  have := (List.getElem_inj (h₀ := h4) (h₁ := h1) hn).1 (by rw [h3, h2])
  omega)
 rw [List.take_length] at this
 exact this
theorem idx_no {w : List Int} {f : Int} (h : f ∉ w) : Lib.idxOf w f = -1 := by
 have := Lib.idxOf_miss w w.length f (fun j hj h2 => h (by
  have h5 : w.getD j 0 = w[j] := by simp [hj]
  rw [h5] at h2
  rw [← h2]; exact List.getElem_mem _))
 rw [List.take_length] at this
 exact this
theorem map_at {w : List Nat} {j : Nat} {p : Int} (h : (w.map numI)[j]? = some p) : ∃ a : Nat, w[j]? = some a ∧ p = (a : Int) + 1 := by
 rw [List.getElem?_map, Option.map_eq_some_iff] at h
 obtain ⟨a, h1, rfl⟩ := h
 exact ⟨a, h1, rfl⟩
theorem numI_nodup {w : List Nat} (h : w.Nodup) : (w.map numI).Nodup := by
 rw [List.nodup_iff_pairwise_ne, List.pairwise_map]
 exact h.imp fun hab x => hab (by unfold numI at x; omega)
theorem next_of (h : Done e C) {n : Nat} (hn : (e.tx n).state = 2) {r : Int × Int} (hr : r ∈ (e.tx n).reads) {q : Int} (hq : nextOf (writers e.hist r.1) r.2 = some q) : ∃ k : Nat, q = (k : Int) + 1 ∧ (e.tx k).state = 2 ∧ (e.tx k).wrote r.1 = true ∧ (e.tx n).begun < (e.tx k).ended := by
 have hro := h.stern.reads n (two_lt hn) (by rw [hn]; decide) r hr
 rw [h.writers] at hq
 unfold nextOf at hq
 obtain ⟨k, hk, rfl⟩ := map_at hq
 have hkm := h.mem.1 (List.mem_of_getElem? hk)
 refine ⟨k, rfl, hkm.1, hkm.2, ?_⟩
 rcases hro.2 with ⟨h1, h2⟩ | ⟨f, h1, h2, h3⟩
 ·exact h2 k hkm.1 hkm.2
 ·obtain ⟨j, hj⟩ := List.getElem?_of_mem (h.mem.2 ⟨h3.2.1, h2⟩ : f ∈ wrotes e C r.1)
  have hj' : ((wrotes e C r.1).map numI)[j]? = some r.2 := by rw [List.getElem?_map, hj, h1]; rfl
  rw [idx_at (numI_nodup (wrotes_nodup h r.1)) hj'] at hk
  have hlt := h.lt hj hk (by omega)
  have hkf : k ≠ f := by rintro rfl; omega
  rcases h3.2.2.2 k hkf hkm.1 hkm.2 with h4 | h4
  ·omega
  ·exact h4
theorem edge_up (h : Done e C) {p : Int × Int} (hp : Edge e.hist p) : ∃ a b : Nat, p.1 = (a : Int) + 1 ∧ p.2 = (b : Int) + 1 ∧ (e.tx a).state = 2 ∧ (e.tx b).state = 2 ∧ rho e a < rho e b := by
 obtain ⟨hne, hz, hc⟩ := hp
 rcases hc with ⟨K, i, h1, h2⟩ | ⟨o, ho, hw, ⟨h1, h2⟩ | ⟨h1, h2⟩⟩
 ·rw [h.writers] at h1 h2
  obtain ⟨a, ha, ha2⟩ := map_at h1
  obtain ⟨b, hb, hb2⟩ := map_at h2
  have ham := h.mem.1 (List.mem_of_getElem? ha)
  have hbm := h.mem.1 (List.mem_of_getElem? hb)
  exact ⟨a, b, ha2, hb2, ham.1, hbm.1, rho_next h ham.1 hbm.1 ham.2 hbm.2 (h.lt ha hb (by omega))⟩
 ·obtain ⟨n, hn, hm⟩ := (hist_mem h).1 ho
  obtain ⟨ht, hr⟩ := told_read hm hw
  have hro := h.stern.reads n (two_lt hn) (by rw [hn]; decide) _ hr
  rcases hro.2 with ⟨h3, _⟩ | ⟨f, h3, h4, h5⟩
  ·exact absurd (h1.trans h3) hz
  ·exact ⟨f, n, h1.trans h3, h2.trans ht, h5.2.1, hn, rho_time h h5.2.1 hn h5.2.2.1⟩
 ·obtain ⟨n, hn, hm⟩ := (hist_mem h).1 ho
  obtain ⟨ht, hr⟩ := told_read hm hw
  obtain ⟨k, k1, k2, k3, k4⟩ := next_of h hn hr h2
  have hnk : n ≠ k := by rintro rfl; exact hne (by rw [h1, ht, k1])
  refine ⟨n, k, h1.trans ht, k1, hn, k2, rho_over h hn k2 ?_ k3 hnk k4⟩
  unfold Tx.saw
  rw [List.any_eq_true]
  exact ⟨_, hr, by simp⟩
theorem hist_good (h : Done e C) : ∀ o ∈ e.hist, badOp o = false ∧ lostRead e.hist o = false ∧ o.tx ≤ e.txs.length ∧ o.fr ≤ e.txs.length ∧ ∃ c : Nat, o.tx = (c : Int) + 1 ∧ (e.tx c).state = 2 := by
 intro o ho
 obtain ⟨n, hn, hm⟩ := (hist_mem h).1 ho
 have ht := toldL_tx o hm
 have hnl := two_lt hn
 have hkey : keyOk o.key ∧ 0 ≤ o.fr ∧ o.fr ≤ e.txs.length ∧ (o.wr = false → o.fr ≠ 0 → o.fr ∈ writers e.hist o.key) := by
  cases hw : o.wr with
  | true =>
   unfold toldL at hm
   rcases List.mem_append.1 hm with hm | hm
   ·obtain ⟨r, hr, rfl⟩ := List.mem_map.1 hm; cases hw
   ·obtain ⟨p, hp, rfl⟩ := List.mem_map.1 hm
    have h1 := mem_written.1 hp
    have : (e.tx n).wrote p.1 = true := by unfold Tx.wrote; rw [h1]; rfl
    exact ⟨(h.ok.choose_spec).wrote_ok this, Int.le_refl _, by show (0 : Int) ≤ _; omega, by simp⟩
  | false =>
   obtain ⟨_, hr⟩ := told_read hm hw
   have hro := h.stern.reads n hnl (by rw [hn]; decide) _ hr
   refine ⟨hro.1, ?_⟩
   rcases hro.2 with ⟨h3, _⟩ | ⟨f, h3, h4, h5⟩
   ·have h3 : o.fr = 0 := h3
    exact ⟨by omega, by omega, fun _ h6 => absurd h3 h6⟩
   ·have h3 : o.fr = (f : Int) + 1 := h3
    have hf := h5.1
    refine ⟨by omega, by omega, fun _ _ => ?_⟩
    rw [h.writers, h3]
    exact List.mem_map.2 ⟨f, h.mem.2 ⟨h5.2.1, h4⟩, rfl⟩
 refine ⟨?_, ?_, by omega, hkey.2.2.1, n, ht, hn⟩
 ·unfold badOp
  have := hkey.1.1
  have := hkey.1.2
  have := hkey.2.1
  simp only [decide_eq_false_iff_not]
  omega
 ·unfold lostRead
  cases hw : o.wr with
  | true => rfl
  | false =>
   by_cases h0 : o.fr = 0
   ·simp [h0]
   ·simp [hkey.2.2.2 hw h0]
def rhoI (e : Eng) (x : Int) : Int := rho e (x.toNat - 1)
theorem before_of {f : Int → Int} {p : List Int} (hs : p.Pairwise fun a b => f a ≤ f b) {a b : Int} (ha : a ∈ p) (hb : b ∈ p) (hab : f a < f b) : Before p a b := by
 obtain ⟨i, hi⟩ := List.getElem?_of_mem ha
 obtain ⟨j, hj⟩ := List.getElem?_of_mem hb
 refine ⟨i, j, hi, hj, ?_⟩
 obtain ⟨h1, rfl⟩ := List.getElem?_eq_some_iff.1 hi
 obtain ⟨h2, rfl⟩ := List.getElem?_eq_some_iff.1 hj
 refine Classical.byContradiction fun hn => ?_
 rcases Nat.lt_or_ge j i with h3 | h3
 ·have := List.pairwise_iff_getElem.1 hs j i h2 h1 h3
  omega
 ·have : i = j := by omega
  subst this; omega
theorem line_some (h : Done e C) {es : List (Int × Int)} (he : EdgesOf e.hist es) : ∃ out, lineL es (txsOf e.hist).length (txsOf e.hist) = some out := by
 cases hl : lineL es (txsOf e.hist).length (txsOf e.hist) with
 | some out => exact ⟨out, rfl⟩
 | none =>
  exfalso
  have hperm : ((txsOf e.hist).mergeSort fun a b => decide (rhoI e a ≤ rhoI e b)).Perm (txsOf e.hist) := List.mergeSort_perm _ _
  have hsort : ((txsOf e.hist).mergeSort fun a b => decide (rhoI e a ≤ rhoI e b)).Pairwise fun a b => rhoI e a ≤ rhoI e b := by
   have := List.pairwise_mergeSort (le := fun a b : Int => decide (rhoI e a ≤ rhoI e b)) (fun a b c h1 h2 => by simp at *; omega) (fun a b => by simp; omega) (txsOf e.hist)
   exact this.imp (fun h => by simpa using h)
  refine lineL_none es _ (txsOf_nodup _) (Nat.le_refl _) hl hperm fun p hp h1 h2 => ?_
  obtain ⟨a, b, p1, p2, _, _, hab⟩ := edge_up h ((he.2 p).1 hp)
  refine before_of hsort (hperm.mem_iff.2 h1) (hperm.mem_iff.2 h2) ?_
  unfold rhoI
  rw [p1, p2, show ((a : Int) + 1).toNat - 1 = a by omega, show ((b : Int) + 1).toNat - 1 = b by omega]
  exact hab
end
end Go.Proofs.YtcbokjocahnlcaaGreatDoor
