/- errors.As at an error with a place; what Tell answers then. -/
import Derived.Test.YthdiphfbjlooaaaDoorTell
import Derived.Test.YthdiphfbjlooaaaDoorWords3
namespace Go.Proofs.YthdiphfbjlooaaaDoor
open Go Go.RowKit Go.Sep Go.Extern.Stop Go.Stop Go.Extern

theorem Tryd.noAs (v : Value) (w : World) : (Instr.typeAssert (.iface 105 v) 34 164 true).run Tryd.prog w = .ok (.tuple #[.nilIface, .bool false]) w :=
  run_typeAssert_lacksB Tryd.underlying164 (by kernel_rfl) (by kernel_rfl) v 34 w
theorem Tryd.hasUnwrap (v : Value) (w : World) : (Instr.typeAssert (.iface 105 v) 34 151 true).run Tryd.prog w = .ok (.tuple #[.iface 105 v, .bool true]) w :=
  run_typeAssert_hasB Tryd.underlying151 (by kernel_rfl) v 34 w
theorem Tryd.methodUnwrap (p : Option Addr) (w : World) : (Go.method 338 105 (.pointer p) "Unwrap").run Tryd.prog w = .ok (157, .pointer p) w := by kernel_rfl
theorem unwrap_any (g : Nat) (e : Int) (w : World) (hc : w.cell? ⟨g, 0, none⟩ = some (.int .i64 e)) : Calls Tryd.prog 157 #[.pointer (some ⟨g, 0, none⟩)] w fun ev w' => ev = .returned (.iface 44 (.int .i64 e)) ∧ w = w' := by
  go_enter Tryd.func157, Tryd.ntmps157
  go_wp2
  go_ret
  exact ⟨rfl, rfl⟩

set_option maxRecDepth 20000 in
set_option maxHeartbeats 4000000 in
theorem as_at (e p : Int) (ga t : Nat) (old : Value) (w0 w : World) (L : List HProp) (hE : ErrT w0) (hs : S w0 w (blk t 44 [old] :: blk ga 106 [.int .i64 e, .int .i64 p] :: L)) :
    Calls Tryd.prog 50 #[.iface 105 (.pointer (some ⟨ga, 0, none⟩)), .iface 111 (.pointer (some ⟨t, 0, none⟩))] w fun ev w' => ev = .returned (.bool true) ∧ S w0 w' (blk t 44 [.int .i64 e] :: blk ga 106 [.int .i64 e, .int .i64 p] :: L) := by
  have hg := hE.of hs
  unfold ErrT at hg
  have hlt := (hE.of hs).lt
  have hs1 := hs.alloc #[.pointer (some ⟨t, 0, none⟩)] 111
  have hs2 := hs1.alloc #[.pointer (some ⟨1, 111, none⟩), .pointer (some ⟨w.heap.size, 0, none⟩), .int .u64 150] 137
  have hs3 := hs2.alloc #[.pointer (some ⟨1, 111, none⟩), .pointer (some ⟨w.heap.size, 0, none⟩), .int .u64 150] 137
  have hs4 := hs3.alloc #[.int .i64 e] 44
  simp only [World.size_alloc] at hs2 hs3 hs4
  have hfin := hs4.tail.tail.tail.tail.blk_set 0 (by simp) (.int .i64 e)
  have h6 := @run_callFunc_extern Tryd.prog 71 _ (fun args => ReflectliteValue.unpack (args.getD 0 (.tuple #[]))) Tryd.func71 (by kernel_rfl) (by kernel_rfl) (by kernel_rfl) (by kernel_rfl)
  have h7 := @run_callFunc_extern Tryd.prog 72 _ (ReflectliteValue.methodAny (ReflectliteValue.valueError "reflectlite.Value.Type" 0) (fun t _ _ _ => ReflectliteType.toType t)) Tryd.func72 (by kernel_rfl) (by kernel_rfl) (by kernel_rfl) (by kernel_rfl)
  have h8 := @run_callFunc_extern Tryd.prog 73 _ (ReflectliteValue.method (ReflectliteValue.valueError "reflectlite.Value.IsNil" 0) ReflectliteValue.isNil) Tryd.func73 (by kernel_rfl) (by kernel_rfl) (by kernel_rfl) (by kernel_rfl)
  have h27 := @run_callFunc_extern Tryd.prog 152 _ (ReflectliteType.abiMethod fun t => do pure (.int .u8 (← Rtype.kind t))) Tryd.func152 (by kernel_rfl) (by kernel_rfl) (by kernel_rfl) (by kernel_rfl)
  have h37 := @run_callFunc_extern Tryd.prog 164 _ (ReflectliteType.method ReflectliteType.elem) Tryd.func164 (by kernel_rfl) (by kernel_rfl) (by kernel_rfl) (by kernel_rfl)
  have h38 := @run_callFunc_extern Tryd.prog 165 _ (ReflectliteType.relation "Implements" ReflectliteType.implements_) Tryd.func165 (by kernel_rfl) (by kernel_rfl) (by kernel_rfl) (by kernel_rfl)
  have h10 := @run_callFunc_extern Tryd.prog 82 _ ReflectliteType.typeOf Tryd.func82 (by kernel_rfl) (by kernel_rfl) (by kernel_rfl) (by kernel_rfl)
  have h35 := @run_callFunc_extern Tryd.prog 162 _ (ReflectliteType.relation "AssignableTo" ReflectliteType.assignableTo) Tryd.func162 (by kernel_rfl) (by kernel_rfl) (by kernel_rfl) (by kernel_rfl)
  have h11 := @run_callFunc_extern Tryd.prog 83 _ (ReflectliteValue.method (ReflectliteValue.valueError "reflectlite.Value.Elem" 0) ReflectliteValue.elem) Tryd.func83 (by kernel_rfl) (by kernel_rfl) (by kernel_rfl) (by kernel_rfl)
  have h12 := @run_callFunc_extern Tryd.prog 84 _ ReflectliteValue.set Tryd.func84 (by kernel_rfl) (by kernel_rfl) (by kernel_rfl) (by kernel_rfl)
  have tO := Tryd.typeOfE
  have tA := Tryd.typeOfA
  have nA := Tryd.noAs
  have hU := Tryd.hasUnwrap
  have mU := Tryd.methodUnwrap
  have a26 := Tryd.assignableA
  have ca := (hs3.tail.tail.tail.swap.blk_cell 0 rfl)
  have mA := Tryd.methodAssignableTo
  have a25 := Tryd.assignableE
  have v25 := Tryd.valueOfE
  have f6 := Tryd.valueOfT
  have f7 := Tryd.typeT
  have mK := Tryd.methodKind
  have mE := Tryd.methodElem
  have mI := Tryd.methodImplements
  have k27 := Tryd.kindT
  have k25 := Tryd.kindE
  have e27 := Tryd.elemT
  have i25 := Tryd.implementsE
  have n8 := Tryd.isNilT ⟨w.heap.size, 0, none⟩ ⟨t, 0, none⟩ _ (hs2.tail.blk_cell 0 rfl)
  have el := Tryd.elemVT ⟨w.heap.size, 0, none⟩ ⟨t, 0, none⟩ _ (hs3.tail.tail.blk_cell 0 rfl)
  have st := Tryd.setE ⟨t, 0, none⟩ ⟨w.heap.size + 1 + 1 + 1, 0, none⟩ e old _ (hs4.blk_cell 0 rfl) (hs4.tail.tail.tail.tail.blk_cell 0 rfl) (hs4.tail.tail.tail.tail.blk_free 0)
  have hg2 : ((w.alloc (.cells #[.pointer (some ⟨t, 0, none⟩)] 111)).alloc (.cells #[.pointer (some ⟨1, 111, none⟩), .pointer (some ⟨w.heap.size, 0, none⟩), .int .u64 150] 137)).cell? ⟨0, 0, none⟩ = some (.iface 159 (.agg #[.pointer (some ⟨1, 34, none⟩)])) := hE.of hs2
  have HF := hid hfin
  clear hs1 hs2 hs3 hs4 hfin hs
  go_enter Tryd.func50, Tryd.ntmps50
  go_wp2
  refine wp_loop_rounds 2 ?_
  rw [rounds_succ]
  go_wp2
  rw [rounds_succ]
  go_wp2
  go_ret
  exact ⟨rfl, HF.out⟩

set_option maxHeartbeats 1000000 in
theorem tell_at (e p : Int) (g : Nat) (w0 w : World) (L : List HProp) (hE : ErrT w0) (hs : S w0 w (blk g 106 [.int .i64 e, .int .i64 p] :: L)) :
    Calls Tryd.prog 16 #[.iface 105 (.pointer (some ⟨g, 0, none⟩))] w fun ev w' => ev = .returned (.int .i64 e) ∧ S w0 w' (blk g 106 [.int .i64 e, .int .i64 p] :: L) := by
  have hs1 := hs.alloc #[.int .i64 0] 44
  have H1 := hid hs1
  clear hs1 hs
  go_enter Tryd.func16, Tryd.ntmps16
  go_wp2_with (go_at_call 50; refine (as_at _ _ _ _ _ w0 _ L hE H1.out).mono ?_; rintro ev w' ⟨rfl, hs2⟩; have d1 := hs2.blk_cell 0 rfl; have H2 := hid hs2; clear hs2)
  go_ret
  exact ⟨rfl, H2.out.tail⟩
/-- Tell, of whatever error. -/
theorem tell_any (x : Err) (v : Value) (w0 w : World) (L : List HProp) (hE : ErrT w0) (hs : S w0 w (errP 44 106 105 v x :: L)) :
    Calls Tryd.prog 16 #[v] w fun ev w' => ev = .returned (.int .i64 (Err.errno x)) ∧ S w0 w' (errP 44 106 105 v x :: L) := by
  cases x with
  | nil =>
    obtain ⟨rfl, h⟩ := S.pur_elim hs
    exact (tell_nil w).mono fun ev w' ⟨h1, h2⟩ => ⟨h1, by rw [← h2]; exact hs⟩
  | no e =>
    obtain ⟨rfl, h⟩ := S.pur_elim hs
    exact (tell_no e w0 w L hE h).mono fun ev w' ⟨h1, h2⟩ => ⟨h1, S.pur_intro rfl h2⟩
  | at_ e p =>
    obtain ⟨g, hs1⟩ := S.ex_elim hs
    obtain ⟨rfl, hs2⟩ := S.pur_elim (S.sep_elim hs1)
    exact (tell_at e p g w0 w L hE hs2).mono fun ev w' ⟨h1, h2⟩ => ⟨h1, .ex_intro g (.sep_intro (.pur_intro rfl h2))⟩
end Go.Proofs.YthdiphfbjlooaaaDoor
