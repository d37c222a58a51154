/- The reference's table: Drop. -/
import Derived.Test.YtbcoddibdipjkaaDoorRefB
namespace Go.Sep
open Go Go.RowKit
/-- The queues of which those of the first 'k' keys are struck. -/
def upto (Qs : List (List Int)) (tx : Int) (k : Nat) : List (List Int) := (Qs.take k).map (fun l => strike l tx) ++ Qs.drop k
theorem upto_zero (Qs : List (List Int)) (tx : Int) : upto Qs tx 0 = Qs := by simp [upto]
theorem upto_all {Qs : List (List Int)} {k : Nat} (h : Qs.length = k) (tx : Int) : upto Qs tx k = Qs.map fun l => strike l tx := by
  unfold upto; rw [← h, List.take_length, List.drop_length, List.append_nil]
theorem upto_at {Qs : List (List Int)} {tx : Int} {k : Nat} {q : List Int} (hk : k < Qs.length) (h : (upto Qs tx k)[k]? = some q) : Qs[k]? = some q := by
  unfold upto at h
  rw [List.getElem?_append_right (by simp; omega)] at h
  simp only [List.length_map, List.length_take, Nat.min_eq_left (Nat.le_of_lt hk), Nat.sub_self, List.getElem?_drop, Nat.add_zero] at h
  exact h
theorem upto_set {Qs : List (List Int)} {tx : Int} {k : Nat} {q : List Int} (h : Qs[k]? = some q) : (upto Qs tx k).set k (strike q tx) = upto Qs tx (k + 1) := by
  obtain ⟨hk, hq⟩ := List.getElem?_eq_some_iff.1 h
  unfold upto
  rw [List.set_append_right _ _ (by simp; omega)]
  simp only [List.length_map, List.length_take, Nat.min_eq_left (Nat.le_of_lt hk), Nat.sub_self]
  rw [List.drop_eq_getElem_cons hk, List.set_cons_zero, List.take_succ_eq_append_getElem hk, List.map_append, hq]
  simp
theorem routK_one {tx k : Int} {q : List Int} {y : Int} {l : List Int} (h : q.head? = some tx) (hs : strike q tx = y :: l) : routK tx k q = [(k, y)] := by
  unfold routK; rw [if_pos h, hs]; rfl
theorem routK_none {tx k : Int} {q : List Int} (h : q.head? ≠ some tx ∨ strike q tx = []) : routK tx k q = [] := by
  unfold routK
  by_cases e : q.head? = some tx
  · rcases h with h | h
    · exact absurd e h
    · rw [if_pos e, h]; rfl
  · rw [if_neg e]
theorem rout_le (Qs : List (List Int)) (tx : Int) : ∀ n, (rout Qs tx n).length ≤ n
  | 0 => by simp [rout]
  | n + 1 => by
    rw [rout_succ, List.length_append]
    have := rout_le Qs tx n
    have : (routK tx n (qf Qs n)).length ≤ 1 := by
      unfold routK; split
      · cases strike (qf Qs n) tx <;> simp [firstL]
      · simp
    omega
end Go.Sep
namespace Go.Proofs.YtbcoddibdipjkaaDoor
open Go Go.RowKit Go.Sep

set_option maxRecDepth 40000 in
set_option maxHeartbeats 8000000 in
theorem rdrop_any (w0 w : World) (b : Nat) (Qs : List (List Int)) (tx : Int) (L : List HProp) (hs : S w0 w (rtabP 3 b 0 Qs :: L)) (hN : ∀ q ∈ Qs, q.length ≤ 900000) :
    Calls Tryd.prog 41 #[.pointer (some ⟨b, 0, none⟩), .int .i64 tx] w fun e w' => ∃ v, e = .returned v ∧
      S w0 w' (sl 31 2 v (rout Qs tx 10).length (pcells (rout Qs tx 10)) :: rtabP 3 b 0 (Qs.map fun l => strike l tx) :: L) := by
  obtain ⟨kv0, hs1⟩ := hs.ex_elim
  have hlen := hs1.rtabK_len
  have harr := hs1.rtabK_arr
  have hadd : ∀ j u, kv0[j]? = some u → w.cell? ((⟨b, 0, none⟩ : Addr).add j) = some u := by
    intro j u hj
    rw [addr_add']; exact harr j u hj
  have hkl := hlen.1
  have hs2 : S w0 w (sl 31 2 (.slice none 0 0) (rout Qs tx 0).length (pcells (rout Qs tx 0)) :: rtabK 3 b 0 kv0 (upto Qs tx 0) :: L) := by
    rw [upto_zero]; exact hs1.sl_nil
  have HA := hid hadd; have HL := hid hlen; have HK := hid hkl; have H2 := hid hs2; have HN := hid hN
  clear hadd harr hs hs1 hs2 hlen hkl hN
  go_enter Tryd.func41, Tryd.ntmps41
  go_wp2_with (refine wpList_load_arr rfl 90 (.tmp 13) rfl ⟨b, 0, none⟩ rfl 10 41 Tryd.underlying90 kv0 (by rw [HK.out]; exact Tryd.size90) HA.out ?_)
  go_loopw [5, 15] (fun vo c wr => ∃ (k : Nat) (kv : List Value), k ≤ 10 ∧ c = .int .i64 k ∧ Hid (∀ j, k ≤ j → kv[j]? = kv0[j]?) ∧ S w0 wr (sl 31 2 vo (rout Qs tx k).length (pcells (rout Qs tx k)) :: rtabK 3 b 0 kv (upto Qs tx k) :: L)) (fun _ c _ => 10 - (intOf c).toNat)
  case atStart => exact ⟨0, kv0, Nat.zero_le _, rfl, hid (fun _ _ => rfl), H2.out⟩
  case round =>
    rename World => wr
    obtain ⟨k, kv, hk, rfl, hsame, hsr⟩ := hrel
    clear H2
    by_cases hlt : k < 10
    · obtain ⟨v, q, X, hkv, hQ, hsl, hcell, _, hput⟩ := hsr.swap.rtabK_key k hlt
      obtain ⟨ao, co, rfl, hco, hco2, _⟩ := hsr.sl_val
      unfold maxLen at hco2
      have hQ0 := upto_at (by rw [HL.out.2]; exact hlt) hQ
      have hkv0 : kv0[k]? = some v := by rw [← hsame.out k (Nat.le_refl _)]; exact hkv
      have hql := HN.out q (List.mem_of_getElem? hQ0)
      have hqf : qf Qs k = q := by rw [qf_nat, hQ0]; rfl
      obtain ⟨a, c, rfl, hc1, hc2, _⟩ := hsl.sl_val
      have hix := fun W => run_index_arr (w := W) Tryd.underlying90 Tryd.underlying41 rfl Tryd.size41 hlt hkv0
      have hup := upto_set (tx := tx) hQ0
      have hkvn : ∀ v' : Value, ∀ j, k + 1 ≤ j → (kv.set k v')[j]? = kv0[j]? := fun v' j hj => by
        rw [List.getElem?_set_ne (by omega)]; exact hsame.out j (by omega)
      have hcf : ∀ (W : World) (M : List HProp), S w0 W (X :: M) → W.cell? ⟨b, k, none⟩ = some (.slice a q.length c) ∧ W.frozen? ⟨b, k, none⟩ = false := fun W M h => by
        obtain ⟨x1, x2, _⟩ := hcell W M h
        rw [Nat.zero_add] at x1 x2
        exact ⟨x1, x2⟩
      have hfin : ∀ (W : World) (v' : Value) (M : List HProp), S w0 W (sl 3 1 v' (strike q tx).length (icells (strike q tx)) :: X :: M) → S w0 (W.setCell ⟨b, k, none⟩ v') (rtabK 3 b 0 (kv.set k v') (upto Qs tx (k + 1)) :: M) := fun W v' M h => by
        have h2 := hput W v' (strike q tx) M h
        rw [Nat.zero_add, hup] at h2
        exact h2
      have H3 := hid (hsl.sl_nil (e := 3) (size := 1))
      have HCF := hid hcf; have HFIN := hid hfin; have HKV := hid hkvn; have HQF := hid hqf; have hro := rout_le Qs tx k
      clear hkv hQ hsl hcell hput hQ0 hkv0 hup hkvn hcf hfin hsr hsame hqf
      have hkb0 : (0 : Int) ≤ (k : Int) := by omega
      have hkb : (k : Int) < 10 := by omega
      go_wp2_with fail
      go_loopw [8, 21] (fun vl cj wx => ∃ j : Nat, j ≤ q.length ∧ cj = .int .i64 j ∧ S w0 wx (sl 3 1 vl (strike (q.take j) tx).length (icells (strike (q.take j) tx)) :: sl 3 1 (.slice a q.length c) q.length (icells q) :: X :: sl 31 2 (.slice ao (rout Qs tx k).length co) (rout Qs tx k).length (pcells (rout Qs tx k)) :: L)) (fun _ c _ => q.length - (intOf c).toNat)
      case atStart => exact ⟨0, Nat.zero_le _, rfl, H3.out⟩
      case round =>
        rename World => wx
        obtain ⟨j, hj, rfl, hsx⟩ := hrel
        clear H3
        by_cases hjl : j < q.length
        · have hp : q[j]? = some q[j] := by simp [hjl]
          generalize q[j] = y at hp
          obtain ⟨g, o, rfl, _, d0⟩ := hsx.swap.sl_int hp
          have hsk := strike_snoc (q.take j) y tx
          rw [← take_succ_get hp] at hsk
          have hsl := strike_le (q.take j) tx
          rw [List.length_take] at hsl
          by_cases hy : y = tx
          · subst hy
            rw [if_pos rfl] at hsk
            have HX := hid hsk; have H4 := hid hsx
            clear hsk hsx hp
            go_wp2_with fail
            go_roundw
            case rel => exact ⟨j + 1, by omega, by go_num, by rw [HX.out]; exact H4.out⟩
            case measure => simp [intOf]; omega
          · have hyb : (y != tx) = true := by simpa using hy
            rw [if_neg hy] at hsk
            obtain ⟨al, cl, rfl, hcl, hcl2, _⟩ := hsx.sl_val
            unfold maxLen at hcl2
            obtain ⟨i0, hi0, hz0, hz1, hz2⟩ := info_parts Tryd.info3
            have hs1 := hsx.alloc #[.int .i64 y] 3
            have hn1 := news_blk hs1
            have hs2 := hs1.tail
            have HX := hid hsk; have HN1 := hid hn1; have H9 := hid hs2
            clear hs1 hs2 hn1 hsx hsk hp hy
            go_wp2_with (at_builtin; refine wpList_append rfl (.tmp 28) (.tmp 30) 41 rfl 3 i0 _ 1 8 Tryd.underlying41 hi0 hz0 hz1 hz2 rfl (by decide) H9.out rfl (some ⟨wx.heap.size, 0, none⟩) 1 1 [.int .i64 y] rfl rfl HN1.out (by simp [Value.oneCell']) (by unfold maxLen; omega) (by omega) ?_; intro v1 w5 hs1; have HS := hid hs1; clear hs1)
            go_roundw
            case rel => exact ⟨j + 1, by omega, by go_num, by rw [HX.out, List.length_append, List.length_singleton, icells_append]; exact HS.out⟩
            case measure => simp [intOf]; omega
        · obtain rfl : j = q.length := by omega
          rw [List.take_length] at hsx
          obtain ⟨al, cl, rfl, hcl, hcl2, _⟩ := hsx.sl_val
          unfold maxLen at hcl2
          have hsl := strike_le q tx
          clear hjl
          by_cases hq0 : 0 < q.length
          · have hp : q[0]? = some q[0] := by simp [hq0]
            generalize q[0] = z at hp
            obtain ⟨g, o, rfl, _, d0⟩ := hsx.swap.sl_int hp
            rw [Nat.add_zero] at d0
            have hqb : (0 : Int) < (q.length : Int) := by omega
            have hhd : q.head? = some z := by rw [List.head?_eq_getElem?]; exact hp
            have HHD := hid hhd
            clear hp hhd
            by_cases hz : z = tx
            · rw [hz] at d0
              have HHD2 := hid (HHD.out.trans (congrArg some hz))
              clear HHD hz
              by_cases hs0 : 0 < (strike q tx).length
              · have hsp : (strike q tx)[0]? = some (strike q tx)[0] := by simp [hs0]
                generalize hy0 : (strike q tx)[0] = y0 at hsp
                obtain ⟨g2, o2, rfl, _, f0⟩ := hsx.sl_int hsp
                rw [Nat.add_zero] at f0
                have hsb : (0 : Int) < ((strike q tx).length : Int) := by omega
                have hrk : routK tx k q = [((k : Int), y0)] := by
                  cases hst : strike q tx with
                  | nil => rw [hst] at hs0; simp at hs0
                  | cons y1 l1 =>
                    rw [hst] at hsp
                    simp only [List.getElem?_cons_zero, Option.some.injEq] at hsp
                    rw [routK_one HHD2.out hst, hsp]
                clear hy0 hsp
                have hsy := hsx.conv (M := sl 31 2 (.slice ao (rout Qs tx k).length co) (rout Qs tx k).length (pcells (rout Qs tx k)) :: sl 3 1 (.slice (some ⟨g2, o2, none⟩) (strike q tx).length cl) (strike q tx).length (icells (strike q tx)) :: sl 3 1 (.slice (some ⟨g, o, none⟩) q.length c) q.length (icells q) :: X :: L) (by simp only [all]; ac_rfl)
                have hs1 := hsy.alloc #[.int .i64 (k : Int), .int .i64 y0] 31
                have hn1 := news_blk hs1
                have hs2 := hs1.tail
                obtain ⟨i0, hi0, hz0, hz1, hz2⟩ := info_parts Tryd.info31
                have HR := hid hrk; have HN1 := hid hn1; have H9 := hid hs2
                clear hs1 hs2 hn1 hsx hsy hrk
                go_wp2_with (at_builtin; refine wpList_append rfl (.tmp 48) (.tmp 54) 29 rfl 31 i0 _ 2 16 Tryd.underlying29 hi0 hz0 hz1 hz2 rfl (by decide) H9.out rfl (some ⟨wx.heap.size, 0, none⟩) 1 1 [.int .i64 (k : Int), .int .i64 y0] rfl rfl HN1.out (by simp [Value.oneCell']) (by unfold maxLen; omega) (by omega) ?_; intro v1 w5 hs1; have HS := hid hs1; have hd := HCF.out w5 _ (hs1.conv (M := X :: sl 31 2 v1 ((rout Qs tx k).length + 1) (pcells (rout Qs tx k) ++ [.int .i64 (k : Int), .int .i64 y0]) :: sl 3 1 (.slice (some ⟨g2, o2, none⟩) (strike q tx).length cl) (strike q tx).length (icells (strike q tx)) :: sl 3 1 (.slice (some ⟨g, o, none⟩) q.length c) q.length (icells q) :: L) (by simp only [all]; ac_rfl)); have e1 := hd.1; have e2 := hd.2; clear hd hs1)
                have HZ := hid (HFIN.out w5 _ _ (HS.out.conv (M := sl 3 1 (.slice (some ⟨g, o, none⟩) q.length c) q.length (icells q) :: sl 3 1 (.slice (some ⟨g2, o2, none⟩) (strike q tx).length cl) (strike q tx).length (icells (strike q tx)) :: X :: sl 31 2 v1 ((rout Qs tx k).length + 1) (pcells (rout Qs tx k) ++ [.int .i64 (k : Int), .int .i64 y0]) :: L) (by simp only [all]; ac_rfl)).tail)
                go_roundw
                case rel => exact ⟨k + 1, _, by omega, by go_num, hid (HKV.out _), by rw [rout_succ, HQF.out, HR.out, pcells_append, List.length_append, List.length_singleton]; exact HZ.out.swap⟩
                case measure => simp [intOf]; omega
              · have hs1 : (strike q tx).length = 0 := by omega
                have hst : strike q tx = [] := List.eq_nil_of_length_eq_zero hs1
                have hsb : ¬ (0 : Int) < ((strike q tx).length : Int) := by omega
                have hrk : routK tx k q = [] := routK_none (.inr hst)
                clear hst hs1 hs0
                have hd := HCF.out wx _ hsx.tail.tail
                have e1 := hd.1
                have e2 := hd.2
                have hz := HFIN.out wx _ _ hsx.swap.tail
                have HR := hid hrk; have HZ := hid hz
                clear hd hz hsx hrk
                go_wp2_with fail
                go_roundw
                case rel => exact ⟨k + 1, _, by omega, by go_num, hid (HKV.out _), by rw [rout_succ, HQF.out, HR.out, List.append_nil]; exact HZ.out.swap⟩
                case measure => simp [intOf]; omega
            · have hzb : (z == tx) = false := by simpa using hz
              have hrk : routK tx k q = [] := routK_none (.inl (by rw [HHD.out]; intro e; exact hz (Option.some.inj e)))
              have hd := HCF.out wx _ hsx.tail.tail
              have e1 := hd.1
              have e2 := hd.2
              have hz1 := HFIN.out wx _ _ hsx.swap.tail
              have HR := hid hrk; have HZ := hid hz1
              clear hd hz1 hsx hrk
              go_wp2_with fail
              go_roundw
              case rel => exact ⟨k + 1, _, by omega, by go_num, hid (HKV.out _), by rw [rout_succ, HQF.out, HR.out, List.append_nil]; exact HZ.out.swap⟩
              case measure => simp [intOf]; omega
          · have hqb : ¬ (0 : Int) < (q.length : Int) := by omega
            have hqn : q = [] := List.eq_nil_of_length_eq_zero (by omega)
            have hrk : routK tx k q = [] := routK_none (.inl (by rw [hqn]; simp))
            clear hqn hq0
            have hd := HCF.out wx _ hsx.tail.tail
            have e1 := hd.1
            have e2 := hd.2
            have hz := HFIN.out wx _ _ hsx.swap.tail
            have HR := hid hrk; have HZ := hid hz
            clear hd hz hsx hrk
            go_wp2_with fail
            go_roundw
            case rel => exact ⟨k + 1, _, by omega, by go_num, hid (HKV.out _), by rw [rout_succ, HQF.out, HR.out, List.append_nil]; exact HZ.out.swap⟩
            case measure => simp [intOf]; omega
    · obtain rfl : k = 10 := by omega
      have H4 := hid hsr
      clear hsr hsame
      go_wp2_with fail
      go_ret
      exact ⟨_, rfl, by
        have h := H4.out
        rw [upto_all HL.out.2] at h
        exact (S.swap (.ex_intro kv h.swap))⟩
end Go.Proofs.YtbcoddibdipjkaaDoor
