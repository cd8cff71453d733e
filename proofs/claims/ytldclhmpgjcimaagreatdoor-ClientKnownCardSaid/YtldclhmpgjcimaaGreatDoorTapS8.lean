/- errors.As, walked: it misses, it looks within. -/
import Derived.Test.YtldclhmpgjcimaaGreatDoorTapS6
namespace Go.Proofs
open Go Go.RowKit Go.Extern.Stop Go.Stop Go.Extern


set_option maxRecDepth 100000 in
set_option maxHeartbeats 4000000 in
theorem Tryz.as_within48 (x : Int) (pb po : Nat) (t : Addr) (old : Value) (w : World) (hg : w.cell? ⟨0, 0, none⟩ = some (.iface 327 (.agg #[.pointer (some ⟨7, 43, none⟩)]))) (ht0 : w.cell? t = some old) (hf0 : w.frozen? t = false) (hp : w.cell? ⟨pb, po + 1, none⟩ = some (.iface 48 (.int .i64 x))) :
    Calls Tryz.prog 59 #[.iface 146 (.pointer (some ⟨pb, po, none⟩)), .iface 145 (.pointer (some t))] w fun ev w' => ev = .returned (.bool true) ∧ w' = ((((w.alloc (.cells #[.pointer (some t)] 145)).alloc (.cells #[.pointer (some ⟨7, 145, none⟩), .pointer (some ⟨w.heap.size, 0, none⟩), .int .u64 150] 253)).alloc (.cells #[.pointer (some ⟨7, 145, none⟩), .pointer (some ⟨w.heap.size, 0, none⟩), .int .u64 150] 253)).alloc (.cells #[(.int .i64 x)] 48)).setCell t (.int .i64 x) := by
  have h128 := @run_callFunc_extern Tryz.prog 128 _ (fun args => ReflectliteValue.unpack (args.getD 0 (.tuple #[]))) Tryz.func128 (by kernel_rfl) (by kernel_rfl) (by kernel_rfl) (by kernel_rfl)
  have h129 := @run_callFunc_extern Tryz.prog 129 _ (ReflectliteValue.methodAny (ReflectliteValue.valueError "reflectlite.Value.Type" 0) (fun t _ _ _ => ReflectliteType.toType t)) Tryz.func129 (by kernel_rfl) (by kernel_rfl) (by kernel_rfl) (by kernel_rfl)
  have h130 := @run_callFunc_extern Tryz.prog 130 _ (ReflectliteValue.method (ReflectliteValue.valueError "reflectlite.Value.IsNil" 0) ReflectliteValue.isNil) Tryz.func130 (by kernel_rfl) (by kernel_rfl) (by kernel_rfl) (by kernel_rfl)
  have h402 := @run_callFunc_extern Tryz.prog 402 _ (ReflectliteType.abiMethod fun t => do pure (.int .u8 (← Rtype.kind t))) Tryz.func402 (by kernel_rfl) (by kernel_rfl) (by kernel_rfl) (by kernel_rfl)
  have h418 := @run_callFunc_extern Tryz.prog 418 _ (ReflectliteType.method ReflectliteType.elem) Tryz.func418 (by kernel_rfl) (by kernel_rfl) (by kernel_rfl) (by kernel_rfl)
  have h419 := @run_callFunc_extern Tryz.prog 419 _ (ReflectliteType.relation "Implements" ReflectliteType.implements_) Tryz.func419 (by kernel_rfl) (by kernel_rfl) (by kernel_rfl) (by kernel_rfl)
  have h192 := @run_callFunc_extern Tryz.prog 192 _ (ReflectliteType.typeOf) Tryz.func192 (by kernel_rfl) (by kernel_rfl) (by kernel_rfl) (by kernel_rfl)
  have h416 := @run_callFunc_extern Tryz.prog 416 _ (ReflectliteType.relation "AssignableTo" ReflectliteType.assignableTo) Tryz.func416 (by kernel_rfl) (by kernel_rfl) (by kernel_rfl) (by kernel_rfl)
  have mA := Tryz.methodAssignableTo
  have f6 := Tryz.valueOf145
  have f7 := Tryz.typeV145
  have mK := Tryz.methodKind
  have mE := Tryz.methodElem
  have mI := Tryz.methodImplements
  have k27 := Tryz.kind145
  have k25 := Tryz.kind48
  have e27 := Tryz.elem145
  have i25 := Tryz.implements48
  have n8 := Tryz.isNil145 ⟨w.heap.size, 0, none⟩ t ((w.alloc (.cells #[.pointer (some t)] 145)).alloc (.cells #[.pointer (some ⟨7, 145, none⟩), .pointer (some ⟨w.heap.size, 0, none⟩), .int .u64 150] 253)) (by simp)
  have hlt : 0 < w.heap.size := by
    rcases Nat.eq_zero_or_pos w.heap.size with h0 | h
    · simp [World.cell?, h0] at hg
    · exact h
  have hg2 : ((w.alloc (.cells #[.pointer (some t)] 145)).alloc (.cells #[.pointer (some ⟨7, 145, none⟩), .pointer (some ⟨w.heap.size, 0, none⟩), .int .u64 150] 253)).cell? ⟨0, 0, none⟩ = some (.iface 327 (.agg #[.pointer (some ⟨7, 43, none⟩)])) := by
    rw [World.cell?_alloc_lt _ _ ⟨0, 0, none⟩ (by simp), World.cell?_alloc_lt _ _ ⟨0, 0, none⟩ hlt]; exact hg
  have h193 := @run_callFunc_extern Tryz.prog 193 _ (ReflectliteValue.method (ReflectliteValue.valueError "reflectlite.Value.Elem" 0) ReflectliteValue.elem) Tryz.func193 (by kernel_rfl) (by kernel_rfl) (by kernel_rfl) (by kernel_rfl)
  have h194 := @run_callFunc_extern Tryz.prog 194 _ (ReflectliteValue.set) Tryz.func194 (by kernel_rfl) (by kernel_rfl) (by kernel_rfl) (by kernel_rfl)
  have tO := Tryz.typeOf48
  have a25 := Tryz.assignable48_48
  have v25 := Tryz.valueOf48
  have htl : t.block < w.heap.size := by
    rcases Nat.lt_or_ge t.block w.heap.size with h | h
    · exact h
    · simp [World.cell?, Array.getElem?_eq_none h] at ht0
  have el := Tryz.elemV145 ⟨w.heap.size, 0, none⟩ t (((w.alloc (.cells #[.pointer (some t)] 145)).alloc (.cells #[.pointer (some ⟨7, 145, none⟩), .pointer (some ⟨w.heap.size, 0, none⟩), .int .u64 150] 253)).alloc (.cells #[.pointer (some ⟨7, 145, none⟩), .pointer (some ⟨w.heap.size, 0, none⟩), .int .u64 150] 253)) (by rw [World.cell?_alloc_lt _ _ ⟨w.heap.size, 0, none⟩ (by simp; omega)]; simp)
  have st := Tryz.set48 t ⟨w.heap.size + 1 + 1 + 1, 0, none⟩ x old ((((w.alloc (.cells #[.pointer (some t)] 145)).alloc (.cells #[.pointer (some ⟨7, 145, none⟩), .pointer (some ⟨w.heap.size, 0, none⟩), .int .u64 150] 253)).alloc (.cells #[.pointer (some ⟨7, 145, none⟩), .pointer (some ⟨w.heap.size, 0, none⟩), .int .u64 150] 253)).alloc (.cells #[(.int .i64 x)] 48))
    (by rw [World.cell?_alloc_at _ _ _ _ (by simp)]; rfl)
    (by rw [World.cell?_alloc_lt _ _ t (by simp; omega), World.cell?_alloc_lt _ _ t (by simp; omega), World.cell?_alloc_lt _ _ t (by simp; omega), World.cell?_alloc_lt _ _ t htl]; exact ht0)
    (by rw [World.frozen?_alloc_old _ _ t (by simp; omega), World.frozen?_alloc_old _ _ t (by simp; omega), World.frozen?_alloc_old _ _ t (by simp; omega), World.frozen?_alloc_old _ _ t (Nat.ne_of_lt htl)]; exact hf0)
  have tO2 := Tryz.typeOf146
  have a26 := Tryz.assignable146_48
  have n1 := Tryz.noAs146
  have n2 := Tryz.unwrap146
  have n3 := Tryz.methodUnwrap
  have hpl : pb < w.heap.size := by
    rcases Nat.lt_or_ge pb w.heap.size with h | h
    · exact h
    · simp [World.cell?, Array.getElem?_eq_none h] at hp
  have hp3 : (((w.alloc (.cells #[.pointer (some t)] 145)).alloc (.cells #[.pointer (some ⟨7, 145, none⟩), .pointer (some ⟨w.heap.size, 0, none⟩), .int .u64 150] 253)).alloc (.cells #[.pointer (some ⟨7, 145, none⟩), .pointer (some ⟨w.heap.size, 0, none⟩), .int .u64 150] 253)).cell? ⟨pb, po + 1, none⟩ = some (.iface 48 (.int .i64 x)) := by
    rw [World.cell?_alloc_lt _ _ ⟨pb, po + 1, none⟩ (by simp; omega), World.cell?_alloc_lt _ _ ⟨pb, po + 1, none⟩ (by simp; omega), World.cell?_alloc_lt _ _ ⟨pb, po + 1, none⟩ hpl]; exact hp
  go_enter Tryz.func59, Tryz.ntmps59
  go_wp2
  refine wp_loop_rounds 2 ?_
  rw [rounds_succ]
  go_wp2
  rw [rounds_succ]
  go_wp2
  go_ret
  exact ⟨rfl, rfl⟩

end Go.Proofs
