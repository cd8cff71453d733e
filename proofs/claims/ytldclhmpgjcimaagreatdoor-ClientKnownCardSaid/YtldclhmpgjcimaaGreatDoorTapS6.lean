/- errors.As, walked: it misses, it looks within. -/
import Derived.Test.YtldclhmpgjcimaaGreatDoorTapS5
namespace Go.Proofs
open Go Go.RowKit Go.Extern.Stop Go.Stop Go.Extern

theorem Tryz.noAs48 (v : Value) (xT : TypeId) (w : World) : (Instr.typeAssert (.iface 48 v) xT 332 true).run Tryz.prog w = .ok (.tuple #[.nilIface, .bool false]) w := run_typeAssert_lacksB Tryz.underlying332 (by kernel_rfl) (by kernel_rfl) v xT w
theorem Tryz.noUnwrap48 (v : Value) (xT : TypeId) (w : World) : (Instr.typeAssert (.iface 48 v) xT 335 true).run Tryz.prog w = .ok (.tuple #[.nilIface, .bool false]) w := run_typeAssert_lacksB Tryz.underlying335 (by kernel_rfl) (by kernel_rfl) v xT w
theorem Tryz.noUnwraps48 (v : Value) (xT : TypeId) (w : World) : (Instr.typeAssert (.iface 48 v) xT 336 true).run Tryz.prog w = .ok (.tuple #[.nilIface, .bool false]) w := run_typeAssert_lacksB Tryz.underlying336 (by kernel_rfl) (by kernel_rfl) v xT w
theorem Tryz.noAs146 (v : Value) (xT : TypeId) (w : World) : (Instr.typeAssert (.iface 146 v) xT 332 true).run Tryz.prog w = .ok (.tuple #[.nilIface, .bool false]) w := run_typeAssert_lacksB Tryz.underlying332 (by kernel_rfl) (by kernel_rfl) v xT w
theorem Tryz.unwrap146 (v : Value) (xT : TypeId) (w : World) : (Instr.typeAssert (.iface 146 v) xT 335 true).run Tryz.prog w = .ok (.tuple #[.iface 146 v, .bool true]) w := run_typeAssert_hasB Tryz.underlying335 (by kernel_rfl) v xT w
theorem Tryz.methodUnwrap (v : Value) (w : World) : (Go.method 600 146 v "Unwrap").run Tryz.prog w = .ok (410, v) w := by kernel_rfl

end Go.Proofs
