/- The law's fact: two that want what the other one has. -/
import Derived.Test.YtbcoddibdipjkaaDoorLockG
namespace Go.Proofs.YtbcoddibdipjkaaDoor
open Go Go.RowKit Go.Sep

set_option maxRecDepth 20000 in
set_option maxHeartbeats 4000000 in
theorem held_any (w0 w : World) (L : List HProp) (hE : ErrT w0) (hs : S w0 w L) :
    Calls Tryd.prog 17 #[] w fun e w' => e = .returned (.bool true) ∧ S w0 w' L := by
  have hs1 := hs.alloc #[.map none, .map none, .map none] 51
  have hs2 := (S.blk_cells hs1).tab_zero (T := 3)
  have r0 : ∀ h : List (Int × Int), Ranked ⟨h, [], []⟩ (fun _ => 0) := by intro h x k hk; simp [mget_nil] at hk
  have q1 : tbAsk ⟨[], [], []⟩ 1 3 false = (⟨[(3, 1)], [], []⟩, true, 0) := rfl
  have q2 : tbAsk ⟨[(3, 1)], [], []⟩ 2 4 false = (⟨[(3, 1), (4, 2)], [], []⟩, true, 0) := rfl
  have q3 : tbAsk ⟨[(3, 1), (4, 2)], [], []⟩ 1 4 false = (⟨[(3, 1), (4, 2)], [(4, [1])], [(1, 4)]⟩, false, 0) := rfl
  have q4 : tbAsk ⟨[(3, 1), (4, 2)], [(4, [1])], [(1, 4)]⟩ 2 3 true = (⟨[(3, 1), (4, 2)], [(4, [1])], [(1, 4)]⟩, false, 11) := rfl
  have q5 : tbDrop ⟨[(3, 1), (4, 2)], [(4, [1])], [(1, 4)]⟩ 2 = (⟨[(3, 1), (4, 1)], [(4, [])], []⟩, [(4, 1)]) := by
    unfold tbDrop
    have e1 : sortI (holders (strikeT ⟨[(3, 1), (4, 2)], [(4, [1])], [(1, 4)]⟩ 2) 2) = [4] := by
      have : holders (strikeT ⟨[(3, 1), (4, 2)], [(4, [1])], [(1, 4)]⟩ 2) 2 = [4] := rfl
      rw [this]; simp [sortI]
    rw [e1]; rfl
  have r4 : Ranked ⟨[(3, 1), (4, 2)], [(4, [1])], [(1, 4)]⟩ (fun x => if x = 1 then 1 else 0) := by
    intro x k hk
    simp only [mget_cons, mget_nil] at hk
    split at hk
    · rename_i h; simp at hk; subst hk; subst h; simp [mget_cons]
    · simp at hk
  have H2 := hid hs2
  clear hs hs1 hs2
  go_enter Tryd.func17, Tryd.ntmps17
  go_wp2_with fail
  with_reducible refine (task_any w0 _ w.heap.size 0 _ 1 3 _ false _ H2.out (r0 _) (by intro h hh; simp [mget_nil] at hh) (by simp [lineAt, mget_nil])).mono ?_
  intro e w1 h
  unfold AskPost at h
  rw [q1] at h
  obtain ⟨rfl, hs3⟩ := h
  have H3 := hid hs3
  clear hs3 H2 q1
  simp only [errV, ↓reduceIte]
  go_wp2_with fail
  with_reducible refine (task_any w0 _ w.heap.size 0 _ 2 4 _ false _ H3.out (r0 _) (by intro h hh; simp [mget_cons, mget_nil] at hh) (by simp [lineAt, mget_nil])).mono ?_
  intro e w2 h
  unfold AskPost at h
  rw [q2] at h
  obtain ⟨rfl, hs3⟩ := h
  have H4 := hid hs3
  clear hs3 H3 q2
  simp only [errV, ↓reduceIte]
  go_wp2_with fail
  with_reducible refine (task_any w0 _ w.heap.size 0 _ 1 4 _ false _ H4.out (r0 _) (by intro h hh; simp [mget_cons] at hh; subst hh; exact ⟨1, rfl⟩) (by simp [lineAt, mget_nil])).mono ?_
  intro e w3 h
  unfold AskPost at h
  rw [q3] at h
  obtain ⟨rfl, hs3⟩ := h
  have H5 := hid hs3
  clear hs3 H4 q3 r0
  simp only [errV, ↓reduceIte]
  go_wp2_with fail
  with_reducible refine (task_any w0 _ w.heap.size 0 _ 2 3 _ true _ H5.out r4 (by intro h hh; simp [mget_cons] at hh; subst hh; exact ⟨2, rfl⟩) (by simp [lineAt, mget_cons, mget_nil])).mono ?_
  intro e w4 h
  unfold AskPost at h
  rw [q4] at h
  obtain ⟨rfl, hs3⟩ := h
  have H6 := hid hs3
  clear hs3 H5 q4 r4
  simp only [errV, show ¬ ((11 : Int) = 0) by decide, ↓reduceIte]
  go_wp2_with fail
  with_reducible refine (tdrop_any w0 _ w.heap.size 0 _ 2 _ H6.out (by intro k; simp only [lineAt, mget_cons, mget_nil]; split <;> simp) (by simp)).mono ?_
  rintro e w5 ⟨v5, rfl, hs3⟩
  rw [q5] at hs3
  have H7 := hid hs3
  obtain ⟨a5, cap5, rfl, _, _, _⟩ := hs3.sl_val
  clear hs3 H6 q5
  simp only [List.length_singleton]
  go_wp2_with fail
  with_reducible refine (tell_no 11 w0 w5 _ hE H7.out).mono ?_
  rintro e w6 ⟨rfl, hs4⟩
  obtain ⟨g5, o5, rfl, _, d6, d7⟩ := S.sl_pair (l := [(4, 1)]) (i := 0) (p := (4, 1)) hs4 rfl
  simp only [Nat.zero_mul, Nat.add_zero] at d6 d7
  have hh := tholds_any w0 w6 3 w.heap.size 0 _ 4 _ hs4.swap
  have H8 := hid hs4
  have HH := hid hh
  clear hs4 hh H7
  go_wp2_with fail
  with_reducible refine HH.out.mono ?_
  rintro e w7 ⟨rfl, rfl⟩
  simp only [mget_cons, mget_nil]
  go_wp2_with fail
  go_ret
  exact ⟨rfl, H8.out.tail.tail⟩
end Go.Proofs.YtbcoddibdipjkaaDoor
