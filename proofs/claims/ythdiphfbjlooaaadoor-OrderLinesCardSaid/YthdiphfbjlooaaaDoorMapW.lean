/- Maps of whole numbers, and of slices: what a lookup gives. -/
import Derived.Test.YthdiphfbjlooaaaDoorStoreW3
import Derived.Test.YthdiphfbjlooaaaDoorLockP
namespace Go.Proofs.YthdiphfbjlooaaaDoor
open Go Go.RowKit Go.Sep

theorem Tryd.zero_int (w : World) : (zeroValue 3).run Tryd.prog w = .ok (.int .i64 0) w := by kernel_rfl
theorem Tryd.zero_ints (w : World) : (zeroValue 41).run Tryd.prog w = .ok (.slice none 0 0) w := by kernel_rfl
theorem Tryd.keyInt : KeyOk Tryd.prog 3 encI (fun _ => True) := keyOk_int Tryd.underlying3
theorem getD_ienc (o : Option Int) : (o.map encI).getD (.int .i64 0) = .int .i64 (o.getD 0) := by cases o <;> rfl

/-- A lookup in one of the table's maps of numbers. -/
theorem Tryd.look2 {w : World} {b : Nat} {D : List (Int × Int)} (h : MapAt encI (fun _ => True) w b (ienc D)) (k : Int) :
    (Instr.lookup 48 (.map (some b)) (.int .i64 k) true).run Tryd.prog w = .ok (.tuple #[.int .i64 ((mget D k).getD 0), .bool (mget D k).isSome]) w := by
  have := run_lookup_at Tryd.keyInt Tryd.underlying48 (Tryd.zero_int w) h k trivial true
  rw [ienc_get, getD_ienc] at this
  simpa [encI] using this
theorem Tryd.look1 {w : World} {b : Nat} {D : List (Int × Int)} (h : MapAt encI (fun _ => True) w b (ienc D)) (k : Int) :
    (Instr.lookup 48 (.map (some b)) (.int .i64 k) false).run Tryd.prog w = .ok (.int .i64 ((mget D k).getD 0)) w := by
  have := run_lookup_at Tryd.keyInt Tryd.underlying48 (Tryd.zero_int w) h k trivial false
  rw [ienc_get, getD_ienc] at this
  simpa [encI] using this
theorem Tryd.look2n (w : World) (k : Int) : (Instr.lookup 48 (.map none) (.int .i64 k) true).run Tryd.prog w = .ok (.tuple #[.int .i64 0, .bool false]) w := by
  have := run_lookup_nil Tryd.keyInt Tryd.underlying48 (Tryd.zero_int w) k trivial true
  simpa [encI] using this
theorem Tryd.look1n (w : World) (k : Int) : (Instr.lookup 48 (.map none) (.int .i64 k) false).run Tryd.prog w = .ok (.int .i64 0) w := by
  have := run_lookup_nil Tryd.keyInt Tryd.underlying48 (Tryd.zero_int w) k trivial false
  simpa [encI] using this
theorem Tryd.lookL {w : World} {b : Nat} {E : List (Int × (Value × List Int))} (h : MapAt encI (fun _ => True) w b (E.map fun p => (p.1, p.2.1))) (k : Int) :
    (Instr.lookup 49 (.map (some b)) (.int .i64 k) false).run Tryd.prog w = .ok (lineOf E k).1 w := by
  have := run_lookup_at Tryd.keyInt Tryd.underlying49 (Tryd.zero_ints w) h k trivial false
  rw [mget_map (fun x : Value × List Int => x.1)] at this
  have e : ((mget E k).map fun x => x.1).getD (.slice none 0 0) = (lineOf E k).1 := by unfold lineOf; cases mget E k <;> rfl
  rw [e] at this
  simpa [encI] using this
theorem Tryd.lookLn (w : World) (k : Int) : (Instr.lookup 49 (.map none) (.int .i64 k) false).run Tryd.prog w = .ok (.slice none 0 0) w := by
  have := run_lookup_nil Tryd.keyInt Tryd.underlying49 (Tryd.zero_ints w) k trivial false
  simpa [encI] using this

theorem ienc_perm {a b : List (Int × Int)} (h : (ienc a).Perm (ienc b)) : a.Perm b := by
  have := h.map fun p : Int × Value => (p.1, match p.2 with | .int _ n => n | _ => 0)
  simpa [ienc, List.map_map, Function.comp_def, Sep.encI] using this
theorem ienc_snoc (a : List (Int × Int)) (p : Int × Int) : ienc a ++ [(p.1, Sep.encI p.2)] = ienc (a ++ [p]) := by simp [ienc]
theorem ienc_mem {D : List (Int × Int)} {d : Int × Value} (h : d ∈ ienc D) : ∃ p ∈ D, d = (p.1, Sep.encI p.2) := by
  obtain ⟨p, hp, rfl⟩ := List.mem_map.1 h; exact ⟨p, hp, rfl⟩
end Go.Proofs.YthdiphfbjlooaaaDoor
