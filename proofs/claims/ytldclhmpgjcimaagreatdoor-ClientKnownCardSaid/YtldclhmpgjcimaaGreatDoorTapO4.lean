/- ClientKnown returns true. -/
import Derived.Test.YtldclhmpgjcimaaGreatDoorTapO3
import Derived.Test.YtldclhmpgjcimaaGreatDoorTapF4
import Derived.Test.YtldclhmpgjcimaaGreatDoorTapF5
import Derived.Test.YtldclhmpgjcimaaGreatDoorTapF6
import Derived.Test.YtldclhmpgjcimaaGreatDoorTapF7
namespace Go.Abs
open Go
section
variable {G : Glob} {P : Program} {o : Nat → Option (List AV → Heap → Option (AV × Heap))}
/-- What stands in for functions is no part of what is known. -/
theorem Fixed.ov {S : Map} {w : World} (h : Fixed G S w) : Fixed { G with ov := o } S w := ⟨h.up, h.size, h.get⟩
theorem Fixed.ov' {S : Map} {w : World} (h : Fixed { G with ov := o } S w) : Fixed G S w := ⟨h.up, h.size, h.get⟩
theorem Inv.ov {S : Map} {H : Heap} {w : World} (h : Inv G S H w) : Inv { G with ov := o } S H w := ⟨h.blk, h.inj, h.fix.ov⟩
theorem CallOwn.ov {f : Nat} {r : AV} {H : Heap} (h : CallOwn G P f r H) : CallOwn { G with ov := o } P f r H :=
  fun w hw => (h w (Fixed.ov' hw)).mono fun _ _ ⟨S, hO, hr⟩ => ⟨S, ⟨hO.inv.ov, hO.own, hO.old, hO.size, hO.os, hO.tape, hO.output⟩, hr⟩
theorem GlobOk.ov (h : GlobOk G P) : GlobOk { G with ov := o } P := ⟨h.ty, h.fn, h.stood, h.mixed, h.fix⟩
end
end Go.Abs
namespace Go.Proofs
open Go Go.Abs
set_option maxRecDepth 100000
theorem Tryz.three_own : CallOwn Tryz.glob0 Tryz.prog 40 Tryz.three.r Tryz.three.L.heap := CallOwn.of Tryz.globOk0 Tryz.named0 Tryz.ovSound0 Tryz.three_fact
theorem Tryz.ovSound1 : OvSound Tryz.glob1 Tryz.prog := by
  intro f g args H r H' S w vs hov h hI hr
  have hov : Tryz.ov1 f = some g := hov
  unfold Tryz.ov1 at hov
  split at hov
  · obtain rfl := Option.some.inj hov
    exact memo_ok (by kernel_rfl) (CallOwn.ov (o := Tryz.ov1) Tryz.three_own) h hI hr
  · exact Tryz.ov0_ok rfl hov h hI hr
theorem Tryz.globOk1 : GlobOk Tryz.glob1 Tryz.prog := GlobOk.ov Tryz.globOk0
theorem Tryz.named1 : Named Tryz.glob1 := Tryz.named0
theorem Tryz.known_own : CallOwn Tryz.glob1 Tryz.prog 12 (.bool true) (LHeap.heap ⟨60000, 0, []⟩) :=
  CallOwn.of Tryz.globOk1 Tryz.named1 Tryz.ovSound1 Tryz.known_fact
theorem Tryz.ovSound2 : OvSound Tryz.glob2 Tryz.prog := by
  intro f g args H r H' S w vs hov h hI hr
  have hov : Tryz.ov2 f = some g := hov
  unfold Tryz.ov2 at hov
  split at hov
  · obtain rfl := Option.some.inj hov
    exact memo_ok (by kernel_rfl) (CallOwn.ov (o := Tryz.ov2) Tryz.known_own) h hI hr
  · unfold Tryz.ov1 at hov
    split at hov
    · obtain rfl := Option.some.inj hov
      exact memo_ok (by kernel_rfl) (CallOwn.ov (o := Tryz.ov2) Tryz.three_own) h hI hr
    · exact Tryz.ov0_ok rfl hov h hI hr
theorem Tryz.globOk2 : GlobOk Tryz.glob2 Tryz.prog := GlobOk.ov Tryz.globOk0
theorem Tryz.named2 : Named Tryz.glob2 := Tryz.named0
theorem Tryz.runs22 : Runs Tryz.glob2 Tryz.prog Tryz.rest22 Tryz.ck22.E.env Tryz.ck22.H.heap .ret Tryz.ckEnd.env (LHeap.heap ⟨60000, 0, []⟩) := Runs.of Tryz.globOk2 Tryz.named2 Tryz.ovSound2 Tryz.ck_d
theorem Tryz.runs12 : Runs Tryz.glob2 Tryz.prog Tryz.rest12 Tryz.ck12.E.env Tryz.ck12.H.heap .ret Tryz.ckEnd.env (LHeap.heap ⟨60000, 0, []⟩) := by
  have h := Runs.part Tryz.globOk2 Tryz.named2 Tryz.ovSound2 Tryz.ck_c (d := dropL 10 Tryz.rest12) Tryz.runs22
  rw [seqs_take] at h
  exact h
theorem Tryz.runs8 : Runs Tryz.glob2 Tryz.prog Tryz.rest8 Tryz.ck8.E.env Tryz.ck8.H.heap .ret Tryz.ckEnd.env (LHeap.heap ⟨60000, 0, []⟩) := by
  have h := Runs.part Tryz.globOk2 Tryz.named2 Tryz.ovSound2 Tryz.ck_b (d := dropL 4 Tryz.rest8) Tryz.runs12
  rw [seqs_take] at h
  exact h
theorem Tryz.runs0 : Runs Tryz.glob2 Tryz.prog Tryz.body8 (enterA Tryz.f8 []) ⟨0, 60000, .nil⟩ .ret Tryz.ckEnd.env (LHeap.heap ⟨60000, 0, []⟩) := by
  have h := Runs.part Tryz.globOk2 Tryz.named2 Tryz.ovSound2 Tryz.ck_a (d := dropL 8 Tryz.body8) Tryz.runs8
  rw [seqs_take] at h
  exact h
theorem Tryz.ck_own : CallOwn Tryz.glob2 Tryz.prog 8 (.bool true) (LHeap.heap ⟨60000, 0, []⟩) :=
  CallOwn.body Tryz.globOk2 Tryz.named2 (fn := Tryz.f8) (c := Tryz.body8) (by kernel_rfl) (by kernel_rfl) Tryz.runs0 (.inr rfl) (by kernel_rfl)

/-- ClientKnown returns true, and leaves alone what was there before. -/
theorem Tryz.ck_calls (w : World) (hg : w.cell? ⟨0, 0, none⟩ = some (.iface 327 (.agg #[.pointer (some ⟨7, 43, none⟩)]))) :
    Calls Tryz.prog 8 #[] w fun e w' => e = .returned (.bool true) ∧ Grew w w' := by
  have hlt : 0 < w.heap.size := by
    rcases Nat.eq_zero_or_pos w.heap.size with h0 | h
    · simp [World.cell?, h0] at hg
    · exact h
  have hw : ReadyW Tryz.glob2 w := ⟨fun _ _ _ _ e => (by cases e), hlt, fun R v e => by
    cases R with
    | zero =>
      have e : some (.iface 327 (.agg #[.pointer (some ⟨7, 43, none⟩)])) = some v := e
      obtain rfl := Option.some.inj e
      exact ⟨Nat.one_pos, hg⟩
    | succ R =>
      have e : (none : Option Value) = some v := e
      cases e⟩
  have h := Tryz.ck_own w hw
  unfold CallR at h
  have hrun : (callFunc 8 #[]).run Tryz.prog w = .ok (.enter 8 #[]) w := by
    have hn' : ¬ Tryz.f8.name = "runtime.NumGoroutine" := by
      have := Tryz.fnNamed 8 Tryz.f8 (by kernel_rfl)
      simpa using this
    have hb : Tryz.f8.body = some Tryz.body8 := by kernel_rfl
    simp [callFunc, Tryz.func8, hn', hb]
  rw [hrun] at h
  refine Calls.mono h ?_
  rintro e w' ⟨v, rfl, S, hO, hr⟩
  rw [Rel] at hr
  subst hr
  exact ⟨rfl, hO.old, hO.size, hO.os, hO.tape, hO.output⟩
#print axioms Tryz.ck_calls
end Go.Proofs
