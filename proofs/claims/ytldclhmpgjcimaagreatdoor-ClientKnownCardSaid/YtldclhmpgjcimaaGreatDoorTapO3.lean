/- What stands in for errors.As is what the program does. -/
import Derived.Test.YtldclhmpgjcimaaGreatDoorTapO2
import Derived.Test.YtldclhmpgjcimaaGreatDoorTapS7
import Derived.Test.YtldclhmpgjcimaaGreatDoorTapS8
namespace Go.Proofs
open Go Go.Abs
set_option maxRecDepth 100000

/-- One world grew out of another. -/
structure Grew (w w' : World) : Prop where
  old : ∀ R, R < w.heap.size → w'.heap[R]? = w.heap[R]?
  size : w.heap.size ≤ w'.heap.size
  os : w'.os = w.os
  tape : w'.tape = w.tape
  output : w'.output = w.output
theorem Grew.refl (w : World) : Grew w w := ⟨fun _ _ => rfl, Nat.le_refl _, rfl, rfl, rfl⟩
theorem Grew.alloc {w w' : World} (h : Grew w w') (o : Obj) : Grew w (w'.alloc o) where
  old := fun R hR => by
    show (w'.heap.push o)[R]? = _
    have := h.size
    rw [Array.getElem?_push, if_neg (by omega)]
    exact h.old R hR
  size := by
    show w.heap.size ≤ (w'.heap.push o).size
    have := h.size
    simp; omega
  os := h.os
  tape := h.tape
  output := h.output

section
variable {G : Glob} {S : Map} {H H' : Heap} {w : World} {l : List AV} {r : AV} {vs : Array Value}
theorem Grew.step {w' : World} (hI : Inv G S H w) (h : Grew w w') : Step G S H w S H w' := Step.still hI h.old h.size h.os h.tape h.output

theorem put1_ok {b v o R C : Nat} {x : AV} {vx : Value} (hI : Inv G S H w) (h : put1 H b v o x = some (r, H')) (hS : S b v = some (R, C)) (hx : Rel S x vx) (hna : (∀ l, vx ≠ .agg l) ∧ (∀ l, vx ≠ .tuple l)) :
    r = .bool true ∧ ∃ old, w.cell? ⟨R, o, none⟩ = some old ∧ w.frozen? ⟨R, o, none⟩ = false ∧ ∀ w4, Grew w w4 → Step G S H w S H' (w4.setCell ⟨R, o, none⟩ vx) := by
  unfold put1 at h
  simp only [Option.map_eq_some_iff, Prod.mk.injEq] at h
  obtain ⟨h', hst, hr, rfl⟩ := h
  refine ⟨hr.symm, ?_⟩
  have hst0 := hst
  unfold storeRow at hst
  split at hst
  · rename_i e n cur t hb
    split at hst
    · rename_i hv
      have hv := Nat.eq_of_beq_eq_true hv
      subst hv
      simp only [Option.map_eq_some_iff] at hst
      obtain ⟨t', ht', _⟩ := hst
      simp only [cellsSet] at ht'
      split at ht'
      · cases ht'
      · rename_i ak hak
        obtain ⟨a, k⟩ := ak
        obtain ⟨hRlt, _, hB⟩ := hI.blk _ _ _ _ hS
        obtain ⟨_, c, fr, hc, ht, hfz, _, hn⟩ := hB _ hb
        obtain ⟨_, old, ho, _⟩ := ht o a k hak (hn o a k hak).2
        have hosz : o < c.size := (Array.getElem?_eq_some_iff.1 ho).1
        have hcell : w.cell? ⟨R, o, none⟩ = some old := by rw [cell_at hc]; exact ho
        have hfr : w.frozen? ⟨R, o, none⟩ = false := by
          unfold World.frozen?
          simp only [hc]
          have := hfz rfl o hosz
          obtain ⟨lo, hi⟩ := fr
          simp only at this ⊢
          simp only [Bool.and_eq_false_iff, decide_eq_false_iff_not]
          omega
        refine ⟨old, hcell, hfr, fun w4 hg => ?_⟩
        have hs4 := hg.step hI
        obtain ⟨w5, h5, hs5⟩ := run_storeRow (P := Tryz.prog) hs4.inv hS (vs := [vx]) (RelL.cons hx RelL.nil) hst0
        have hc4 : w4.heap[R]? = some (.cells c e fr) := (hg.old R hRlt).trans hc
        have hcell4 : w4.cell? ⟨R, o, none⟩ = some old := by rw [cell_at hc4]; exact ho
        have hfr4 : w4.frozen? ⟨R, o, none⟩ = false := by
          have : w4.frozen? ⟨R, o, none⟩ = w.frozen? ⟨R, o, none⟩ := by unfold World.frozen?; simp only [hc4, hc]
          rw [this]; exact hfr
        have h6 : (storeCells ⟨R, o, none⟩ [vx]).run Tryz.prog w4 = .ok () (w4.setCell ⟨R, o, none⟩ vx) := by
          have e : (storeCells ⟨R, o, none⟩ [vx]).run Tryz.prog w4 = (store ⟨R, o, none⟩ vx).run Tryz.prog w4 := by
            simp [storeCells, Addr.add]
          rw [e, run_store Tryz.prog w4 _ _ _ (by
            cases vx <;> first | rfl | exact (hna.1 _ rfl).elim | exact (hna.2 _ rfl).elim)]
          simp [hcell4, hfr4]
        rw [h6] at h5
        cases h5
        exact hs4.trans hs5
    · cases hst
  · cases hst

theorem ovAs_at (hfx : G.fixd 0 = some (.iface 327 (.agg #[.pointer (some ⟨7, 43, none⟩)]))) (h : ovAs l H = some (r, H')) (hI : Inv G S H w) (hr : RelL S l vs.toList) : CallR Tryz.prog 59 vs w fun v w' => ∃ S', Step G S H w S' H' w' ∧ Rel S' r v := by
  have hg := (hI.fix.get 0 _ hfx).2
  have enter : ∀ {R : Value → World → Prop}, (Calls Tryz.prog 59 vs w fun e w' => ∃ v, e = .returned v ∧ R v w') → CallR Tryz.prog 59 vs w R :=
    fun h => callR_of Tryz.func59 (by kernel_rfl) (show Tryz.f59.body = some _ from rfl) h
  unfold ovAs at h
  split at h
  · rename_i y
    simp only [Option.some.injEq, Prod.mk.injEq] at h
    obtain ⟨hres, hheap⟩ := h
    subst hheap
    obtain ⟨v1, l1, hv, h1, h2⟩ := hr.cons_inv
    obtain ⟨v2, l2, rfl, h3, h4⟩ := h2.cons_inv
    obtain rfl := h4.nil_inv
    have hvs : vs = #[v1, v2] := by apply Array.ext'; simpa using hv
    subst hvs
    rw [Rel] at h1
    subst h1
    refine enter ((Tryz.as_nil v2 w).mono ?_)
    rintro e w' ⟨rfl, rfl⟩
    exact ⟨_, rfl, S, Step.refl hI, by rw [← hres, Rel]⟩
  · rename_i s x t b v o
    obtain ⟨v1, l1, hv, h1, h2⟩ := hr.cons_inv
    obtain ⟨v2, l2, rfl, h3, h4⟩ := h2.cons_inv
    obtain rfl := h4.nil_inv
    have hvs : vs = #[v1, v2] := by apply Array.ext'; simpa using hv
    subst hvs
    rw [Rel] at h1
    obtain ⟨x1, rfl, h1⟩ := h1
    rw [Rel] at h3
    obtain ⟨t1, rfl, h3⟩ := h3
    rw [Rel] at h3
    obtain ⟨R, C, hS, rfl⟩ := h3
    split at h
    · rename_i hs
      have hs := Nat.eq_of_beq_eq_true hs
      subst hs
      split at h
      · rename_i n
        rw [Rel] at h1
        subst h1
        split at h
        · rename_i ht
          have ht := Nat.eq_of_beq_eq_true ht
          subst ht
          obtain ⟨rfl, old, q1, q2, q3⟩ := put1_ok hI h hS (vx := .int .i64 n) (by rw [Rel]) ⟨by simp, by simp⟩
          refine enter ((Tryz.as_hit48 n ⟨R, o, none⟩ old w hg q1 q2).mono ?_)
          rintro e w' ⟨rfl, rfl⟩
          exact ⟨_, rfl, S, q3 _ (((((Grew.refl w).alloc _).alloc _).alloc _).alloc _), by rw [Rel]⟩
        · split at h
          · rename_i ht
            have ht := Nat.eq_of_beq_eq_true ht
            subst ht
            simp only [Option.some.injEq, Prod.mk.injEq] at h
            obtain ⟨hres, hheap⟩ := h
            subst hheap
            refine enter ((Tryz.as_miss48 n ⟨R, o, none⟩ w hg).mono ?_)
            rintro e w' ⟨rfl, rfl⟩
            exact ⟨_, rfl, S, ((((Grew.refl w).alloc _).alloc _).alloc _).step hI, by rw [← hres, Rel]⟩
          · cases h
      · cases h
    · split at h
      · rename_i hs
        have hs := Nat.eq_of_beq_eq_true hs
        subst hs
        split at h
        · rename_i pb pv po
          rw [Rel] at h1
          obtain ⟨R1, C1, hS1, rfl⟩ := h1
          split at h
          · rename_i ht
            have ht := Nat.eq_of_beq_eq_true ht
            subst ht
            split at h
            · rename_i s' n hl
              split at h
              · rename_i hs'
                have hs' := Nat.eq_of_beq_eq_true hs'
                subst hs'
                obtain ⟨rfl, old, q1, q2, q3⟩ := put1_ok hI h hS (vx := .int .i64 n) (by rw [Rel]) ⟨by simp, by simp⟩
                obtain ⟨arr, g1, g2, g3⟩ := load_cells Tryz.prog hI hS1 hl
                obtain ⟨y, l', rfl, g4, g5⟩ := g1.cons_inv
                obtain rfl := g5.nil_inv
                rw [Rel] at g4
                obtain ⟨z, rfl, g4⟩ := g4
                rw [Rel] at g4
                subst g4
                have hp := g3 0 _ rfl
                refine enter ((Tryz.as_within48 n R1 po ⟨R, o, none⟩ old w hg q1 q2 hp).mono ?_)
                rintro e w' ⟨rfl, rfl⟩
                exact ⟨_, rfl, S, q3 _ (((((Grew.refl w).alloc _).alloc _).alloc _).alloc _), by rw [Rel]⟩
              · cases h
            · cases h
          · split at h
            · rename_i ht
              have ht := Nat.eq_of_beq_eq_true ht
              subst ht
              obtain ⟨rfl, old, q1, q2, q3⟩ := put1_ok hI h hS (vx := .pointer (some ⟨R1, po, none⟩)) (by rw [Rel]; exact ⟨R1, C1, hS1, rfl⟩) ⟨by simp, by simp⟩
              refine enter ((Tryz.as_hit146 ⟨R1, po, none⟩ ⟨R, o, none⟩ old w hg q1 q2).mono ?_)
              rintro e w' ⟨rfl, rfl⟩
              exact ⟨_, rfl, S, q3 _ (((((Grew.refl w).alloc _).alloc _).alloc _).alloc _), by rw [Rel]⟩
            · cases h
        · cases h
      · cases h
  · cases h
end

theorem Tryz.ov0_ok {G : Glob} (hfx : G.fixd 0 = some (.iface 327 (.agg #[.pointer (some ⟨7, 43, none⟩)]))) {f : Nat} {g : List AV → Heap → Option (AV × Heap)} {args : List AV} {H H' : Heap} {r : AV} {S : Map} {w : World} {vs : Array Value}
    (hov : Tryz.ov0 f = some g) (h : g args H = some (r, H')) (hI : Inv G S H w) (hr : RelL S args vs.toList) : CallR Tryz.prog f vs w fun v w' => ∃ S', Step G S H w S' H' w' ∧ Rel S' r v := by
  unfold Tryz.ov0 at hov
  split at hov
  · obtain rfl := Option.some.inj hov; exact ovSum_at crc_walk Tryz.func195 (by kernel_rfl) (show Tryz.f195.body = some _ from rfl) h hI hr
  · obtain rfl := Option.some.inj hov; exact ovSum_at sum_walk Tryz.func143 (by kernel_rfl) (show Tryz.f143.body = some _ from rfl) h hI hr
  · obtain rfl := Option.some.inj hov; exact ovLess_at h hI hr
  · obtain rfl := Option.some.inj hov; exact ovIndex_at h hI hr
  · obtain rfl := Option.some.inj hov; exact ovAs_at hfx h hI hr
  · cases hov
theorem Tryz.ovSound0 : OvSound Tryz.glob0 Tryz.prog := by
  intro f g args H r H' S w vs hov h hI hr
  exact Tryz.ov0_ok rfl (show Tryz.ov0 f = some g from hov) h hI hr
end Go.Proofs
