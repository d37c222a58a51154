/- Maps whose keys are writes: the key's laws at this translation. -/
import Derived.Test.YthdiphfbjlooaaaDoorMapsP
import Derived.Test.YthdiphfbjlooaaaDoorProg
import Derived.TacticsInMore
import Derived.WalkKit
import Derived.Laws.StructEq
namespace Go.Proofs.YthdiphfbjlooaaaDoor
open Go Go.RowKit Go.Sep
theorem eqW (p q : Int × Int) (w : World) : (Op.equal 31 (encP p) (encP q)).run Tryd.prog w = .ok (decide (p = q)) w := by
  obtain ⟨p1, p2⟩ := p
  obtain ⟨q1, q2⟩ := q
  have e : decide ((p1, p2) = (q1, q2)) = ((p1 == q1) && (p2 == q2)) := by rw [Bool.eq_iff_iff]; simp [Prod.ext_iff]
  rw [e]
  unfold encP
  rw [show Op.equal 31 (.agg #[.int .i64 p1, .int .i64 p2]) (.agg #[.int .i64 q1, .int .i64 q2]) = Op.equalIn 10000 31 (.agg #[.int .i64 p1, .int .i64 p2]) (.agg #[.int .i64 q1, .int .i64 q2]) from rfl]
  rw [run_equalIn_agg w 9999 _ _ _ (by kernel_rfl) (by kernel_rfl)]
  have hf : (Tryd.prog.fieldsOf 31).toList.map (fun f => (f.type, f.offset, f.name == "_")) = [(3, 0, false), (3, 1, false)] := by kernel_rfl
  generalize (Tryd.prog.fieldsOf 31).toList = fs at hf
  obtain ⟨f, fs, rfl⟩ : ∃ f fs', fs = f :: fs' := by cases fs with | nil => simp at hf | cons f fs => exact ⟨f, fs, rfl⟩
  obtain ⟨g, fs, rfl⟩ : ∃ f fs', fs = f :: fs' := by cases fs with | nil => simp at hf | cons f fs => exact ⟨f, fs, rfl⟩
  obtain rfl : fs = [] := by cases fs with | nil => rfl | cons f fs => simp at hf
  · simp only [List.map_cons, List.map_nil, List.cons.injEq, Prod.mk.injEq, and_true, beq_eq_false_iff_ne] at hf
    obtain ⟨⟨f1, f2, f3⟩, g1, g2, g3⟩ := hf
    have ui : Tryd.prog.underlying 3 = some (.int .i64) := Tryd.underlying3
    simp [Op.eqFields, go_sem, f1, f2, f3, g1, g2, g3, run_equalIn_int _ 9998 3 .i64 .i64 _ _ ui]
    by_cases h1 : p1 = q1 <;> simp [h1]
    by_cases h2 : p2 = q2 <;> simp [h2]
theorem ckW (em : Bool) (p : Int × Int) (w : World) : (Instr.checkKey em 10000 31 (encP p)).run Tryd.prog w = .ok () w := by kernel_rfl
theorem Tryd.keyPair : KeyOk Tryd.prog 31 encP (fun _ => True) := keyOk_pair (by kernel_rfl) (fun em p w => ckW em p w) (fun p q w => eqW p q w)
end Go.Proofs.YthdiphfbjlooaaaDoor
