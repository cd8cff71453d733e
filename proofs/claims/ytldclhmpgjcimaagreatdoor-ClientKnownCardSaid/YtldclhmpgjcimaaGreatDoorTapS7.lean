/- errors.As, walked: it misses, it looks within. -/
import Derived.Test.YtldclhmpgjcimaaGreatDoorTapS6
namespace Go.Proofs
open Go Go.RowKit Go.Extern.Stop Go.Stop Go.Extern


set_option maxRecDepth 100000 in
set_option maxHeartbeats 4000000 in
theorem Tryz.as_miss48 (x : Int) (t : Addr) (w : World) (hg : w.cell? ⟨0, 0, none⟩ = some (.iface 327 (.agg #[.pointer (some ⟨7, 43, none⟩)]))) :
    Calls Tryz.prog 59 #[.iface 48 (.int .i64 x), .iface 147 (.pointer (some t))] w fun ev w' => ev = .returned (.bool false) ∧ w' = (((w.alloc (.cells #[.pointer (some t)] 147)).alloc (.cells #[.pointer (some ⟨7, 147, none⟩), .pointer (some ⟨w.heap.size, 0, none⟩), .int .u64 150] 253)).alloc (.cells #[.pointer (some ⟨7, 147, none⟩), .pointer (some ⟨w.heap.size, 0, none⟩), .int .u64 150] 253)) := by
  have h128 := @run_callFunc_extern Tryz.prog 128 _ (fun args => ReflectliteValue.unpack (args.getD 0 (.tuple #[]))) Tryz.func128 (by kernel_rfl) (by kernel_rfl) (by kernel_rfl) (by kernel_rfl)
  have h129 := @run_callFunc_extern Tryz.prog 129 _ (ReflectliteValue.methodAny (ReflectliteValue.valueError "reflectlite.Value.Type" 0) (fun t _ _ _ => ReflectliteType.toType t)) Tryz.func129 (by kernel_rfl) (by kernel_rfl) (by kernel_rfl) (by kernel_rfl)
  have h130 := @run_callFunc_extern Tryz.prog 130 _ (ReflectliteValue.method (ReflectliteValue.valueError "reflectlite.Value.IsNil" 0) ReflectliteValue.isNil) Tryz.func130 (by kernel_rfl) (by kernel_rfl) (by kernel_rfl) (by kernel_rfl)
  have h402 := @run_callFunc_extern Tryz.prog 402 _ (ReflectliteType.abiMethod fun t => do pure (.int .u8 (← Rtype.kind t))) Tryz.func402 (by kernel_rfl) (by kernel_rfl) (by kernel_rfl) (by kernel_rfl)
  have h418 := @run_callFunc_extern Tryz.prog 418 _ (ReflectliteType.method ReflectliteType.elem) Tryz.func418 (by kernel_rfl) (by kernel_rfl) (by kernel_rfl) (by kernel_rfl)
  have h419 := @run_callFunc_extern Tryz.prog 419 _ (ReflectliteType.relation "Implements" ReflectliteType.implements_) Tryz.func419 (by kernel_rfl) (by kernel_rfl) (by kernel_rfl) (by kernel_rfl)
  have h192 := @run_callFunc_extern Tryz.prog 192 _ (ReflectliteType.typeOf) Tryz.func192 (by kernel_rfl) (by kernel_rfl) (by kernel_rfl) (by kernel_rfl)
  have h416 := @run_callFunc_extern Tryz.prog 416 _ (ReflectliteType.relation "AssignableTo" ReflectliteType.assignableTo) Tryz.func416 (by kernel_rfl) (by kernel_rfl) (by kernel_rfl) (by kernel_rfl)
  have mA := Tryz.methodAssignableTo
  have f6 := Tryz.valueOf147
  have f7 := Tryz.typeV147
  have mK := Tryz.methodKind
  have mE := Tryz.methodElem
  have mI := Tryz.methodImplements
  have k27 := Tryz.kind147
  have k25 := Tryz.kind146
  have e27 := Tryz.elem147
  have i25 := Tryz.implements146
  have n8 := Tryz.isNil147 ⟨w.heap.size, 0, none⟩ t ((w.alloc (.cells #[.pointer (some t)] 147)).alloc (.cells #[.pointer (some ⟨7, 147, none⟩), .pointer (some ⟨w.heap.size, 0, none⟩), .int .u64 150] 253)) (by simp)
  have hlt : 0 < w.heap.size := by
    rcases Nat.eq_zero_or_pos w.heap.size with h0 | h
    · simp [World.cell?, h0] at hg
    · exact h
  have hg2 : ((w.alloc (.cells #[.pointer (some t)] 147)).alloc (.cells #[.pointer (some ⟨7, 147, none⟩), .pointer (some ⟨w.heap.size, 0, none⟩), .int .u64 150] 253)).cell? ⟨0, 0, none⟩ = some (.iface 327 (.agg #[.pointer (some ⟨7, 43, none⟩)])) := by
    rw [World.cell?_alloc_lt _ _ ⟨0, 0, none⟩ (by simp), World.cell?_alloc_lt _ _ ⟨0, 0, none⟩ hlt]; exact hg
  have tO := Tryz.typeOf48
  have a25 := Tryz.assignable48_146
  have n1 := Tryz.noAs48
  have n2 := Tryz.noUnwrap48
  have n3 := Tryz.noUnwraps48
  go_enter Tryz.func59, Tryz.ntmps59
  go_wp2
  refine wp_loop_rounds 1 ?_
  rw [rounds_succ]
  go_wp2
  go_ret
  exact ⟨rfl, rfl⟩

end Go.Proofs
