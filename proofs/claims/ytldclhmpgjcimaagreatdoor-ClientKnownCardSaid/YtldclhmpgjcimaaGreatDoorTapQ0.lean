/- The abstract evaluator: iteration over a map. -/
import Derived.Test.YtldclhmpgjcimaaGreatDoorTapO
namespace Go.Abs
open Go
section
variable {G : Glob} {P : Program} {S : Map} {E : Env} {a : Go.Act} {H : Heap} {w : World}

theorem RelE.all {S : Map} {n : Nat} : ∀ {es : List (AV × AV × Nat)} {es' : List MapEntry}, RelE S es es' → es'.all (fun e => decide (e.born ≥ n)) = es.all (fun e => Nat.ble n e.2.2)
  | [], _, h => by simp only [RelE] at h; subst h; rfl
  | (k, v, s) :: es, _, h => by
    simp only [RelE] at h
    obtain ⟨x, l', rfl, _, _, rfl, h⟩ := h
    simp only [List.all_cons, RelE.all h]
    congr 1
    rw [Bool.eq_iff_iff]; simp
theorem RelE.isEmpty {S : Map} {es : List (AV × AV × Nat)} {es' : List MapEntry} (h : RelE S es es') : es'.isEmpty = es.isEmpty := by
  cases es with
  | nil => simp only [RelE] at h; subst h; rfl
  | cons e es => obtain ⟨k, v, s⟩ := e; simp only [RelE] at h; obtain ⟨x, l', rfl, _⟩ := h; rfl
theorem RelE.left {S : Map} {seen : List Nat} : ∀ {es : List (AV × AV × Nat)} {es' : List MapEntry}, RelE S es es' → RelE S (leftA seen es) (es'.filter fun e => !seen.toArray.contains e.born)
  | [], _, h => by simp only [RelE] at h; subst h; simp [leftA, RelE]
  | (k, v, s) :: es, _, h => by
    simp only [RelE] at h
    obtain ⟨x, l', rfl, h1, h2, h3, h⟩ := h
    have ih := RelE.left (seen := seen) h
    have hc : (seen.any fun z => Nat.beq z s) = seen.toArray.contains x.born := by
      subst h3
      rw [List.contains_toArray, List.contains_eq_any_beq]
      congr 1
      funext z
      rw [Bool.eq_iff_iff]
      constructor
      · intro h; rw [Nat.eq_of_beq_eq_true h]; exact beq_self_eq_true _
      · intro h; rw [eq_of_beq h]; exact Nat.beq_refl _
    unfold leftA at ih ⊢
    rw [List.filter_cons, List.filter_cons]
    simp only [hc]
    split
    · simp only [RelE]; exact ⟨x, _, rfl, h1, h2, h3, ih⟩
    · exact ih
theorem RelE.bornAt {S : Map} {n : Nat} : ∀ {es : List (AV × AV × Nat)} {es' : List MapEntry} {k v : AV}, RelE S es es' → bornAt n es = some (k, v) → ∃ e, es'.find? (fun e => e.born == n) = some e ∧ Rel S k e.key ∧ Rel S v e.val
  | [], _, _, _, _, hb => by simp [Abs.bornAt] at hb
  | (k0, v0, s) :: es, _, k, v, h, hb => by
    simp only [RelE] at h
    obtain ⟨x, l', rfl, h1, h2, h3, h⟩ := h
    simp only [Abs.bornAt] at hb
    split at hb
    · rename_i hs
      simp only [Option.some.injEq, Prod.mk.injEq] at hb
      obtain ⟨rfl, rfl⟩ := hb
      refine ⟨x, ?_, h1, h2⟩
      rw [List.find?_cons, h3, Nat.eq_of_beq_eq_true hs]
      simp
    · rename_i hs
      obtain ⟨e, g1, g2, g3⟩ := RelE.bornAt h hb
      refine ⟨e, ?_, g2, g3⟩
      rw [List.find?_cons]
      have : (x.born == n) = false := by
        rw [h3]
        cases hq : s == n with
        | false => rfl
        | true => rw [beq_iff_eq] at hq; subst hq; simp at hs
      rw [this]
      exact g1

theorem Step.setIter (hI : Inv G S H w) {b v R C : Nat} {m : Nat} {since since2 : Nat} {seen seen2 : List Nat} {last last2 : Nat} {R' C' : Nat} (hb : S b v = some (R, C)) (hx : H.t.get b = some (.mapIter (some m) since seen last)) (hm : S m 0 = some (R', C')) :
    Step G S H w S (H.put b (.mapIter (some m) since2 seen2 last2)) (putRow w R (.mapIter (some R') since2 seen2.toArray last2)) := by
  obtain ⟨hlt, hbn, hB⟩ := hI.blk _ _ _ _ hb
  obtain ⟨hv, m', hc, _⟩ := hB _ hx
  subst hv
  refine ⟨hI.dom, S.le_refl, ⟨?_, hI.inj, hI.fix.of (fun b v _ C e => .inl ⟨b, v, C, e⟩) (by simp [putRow]) (fun R' hR' => by have := hI.fix.up _ _ _ _ hb; rw [putRow_heap, if_neg (by omega)])⟩, rfl, rfl, rfl, by simp [putRow], ?_, ?_, Nat.le_refl _, Nat.le_refl _, fun _ _ _ _ e => .inl e, fun _ _ _ e => .inl e⟩
  · intro b' v' R1 C1 hb'
    obtain ⟨hlt', hnx, hB'⟩ := hI.blk b' v' R1 C1 hb'
    refine ⟨by simpa [putRow] using hlt', hnx, fun x hx' => ?_⟩
    rcases put_get hx' with ⟨rfl, rfl⟩ | ⟨hne, hx'⟩
    · obtain ⟨hv', _⟩ := hB' _ hx
      subst hv'
      rw [hb] at hb'
      simp only [Option.some.injEq, Prod.mk.injEq] at hb'
      obtain ⟨rfl, rfl⟩ := hb'
      exact ⟨rfl, some R', by rw [putRow_heap]; simp [hlt], C', hm⟩
    · refine (hB' x hx').mono S.le_refl ?_
      rw [putRow_heap, if_neg]
      intro e; subst e
      exact hne (hI.inj _ _ _ _ _ _ _ hb' hb)
  · intro R' hR' hno
    rw [putRow_heap, if_neg]
    intro e; subst e
    rw [hno _ _ _ hb] at hx; cases hx
  · intro b' x hx'
    rcases put_get hx' with ⟨rfl, _⟩ | ⟨_, hx'⟩
    · exact .inr (.inl ⟨⟨0, _, hb⟩, _, hx⟩)
    · exact .inl hx'

theorem run_getIter {R : Nat} {m : Option Nat} {s : Nat} {sn : Array Nat} {l : Nat} (h : w.heap[R]? = some (.mapIter m s sn l)) : (getObj R).run P w = .ok (.mapIter m s sn l) w := by
  simp [getObj, Sem.run, h]
theorem run_setIter {R : Nat} {m : Option Nat} {s : Nat} {sn : Array Nat} {l : Nat} (h : w.heap[R]? = some (.mapIter m s sn l)) (o : Obj) : (setObj R o).run P w = .ok () (putRow w R o) := by
  simp [setObj, Sem.run, h, putRow]
theorem choose_one (P : Program) (w : World) : (choose (.mapNext 1)).run P w = .ok 0 w := by
  simp [choose, Sem.run, Question.forced]

theorem rangeA_ok (hG : GlobOk G P) (hI : Inv G S H w) {t k e : Nat} (hu : und G t = some (.map k e)) {m r : AV} {vm : Value} {H' : Heap} (hm : Rel S m vm) (h : rangeA H m = some (.val r H')) :
    ∃ v w' S', (Instr.range t vm).run P w = .ok v w' ∧ Step G S H w S' H' w' ∧ Rel S' r v := by
  have hund := run_und (P := P) hG hu
  unfold rangeA at h
  split at h
  · rename_i b
    rw [Rel] at hm
    obtain ⟨R, C, hS, rfl⟩ := hm
    split at h
    · rename_i es clock hb
      split at h
      · rename_i hf
        simp only [Option.some.injEq, Act.val.injEq] at h
        obtain ⟨rfl, rfl⟩ := h
        obtain ⟨hlt, _, hB⟩ := hI.blk _ _ _ _ hS
        obtain ⟨hv0, es', hR, hes⟩ := hB _ hb
        refine ⟨.pointer (some ⟨w.heap.size, 0, none⟩), _, _, ?_, Step.push hI hf (x := .mapIter (some b) clock [] clock) (o := .mapIter (some R) clock #[] clock) (C := 0) w.drawn ?_, ?_⟩
        · simp only [Instr.range, Sem.run_bind, hund, Result.andThen_ok, run_getMap hR, Sem.run_pure]
          rfl
        · intro S' hle hS'
          refine ⟨rfl, some R, ?_, C, hle _ _ _ hS⟩
          rw [pushW_heap, if_pos rfl]
        · rw [Rel]; exact ⟨_, _, Map.add_self _ _ _ _, rfl⟩
      · cases h
    · cases h
  · rw [Rel] at hm; subst hm
    split at h
    · rename_i hf
      simp only [Option.some.injEq, Act.val.injEq] at h
      obtain ⟨rfl, rfl⟩ := h
      refine ⟨.pointer (some ⟨w.heap.size, 0, none⟩), _, _, ?_, Step.push hI hf (x := .mapIter none 0 [] 0) (o := .mapIter none 0 #[] 0) (C := 0) w.drawn ?_, ?_⟩
      · simp only [Instr.range, Sem.run_bind, hund, Result.andThen_ok, Sem.run_pure]
        rfl
      · intro S' hle hS'
        exact ⟨rfl, none, by rw [pushW_heap, if_pos rfl], trivial⟩
      · rw [Rel]; exact ⟨_, _, Map.add_self _ _ _ _, rfl⟩
    · cases h
  · cases h

theorem nextA_ok (hI : Inv G S H w) {p r : AV} {vp : Value} {H' : Heap} (hp : Rel S p vp) (h : nextA H p = some (.val r H')) (ty : TypeId) :
    ∃ v w', (Instr.next vp false ty).run P w = .ok v w' ∧ Step G S H w S H' w' ∧ Rel S r v := by
  unfold nextA at h
  split at h
  · rename_i b ver o
    split at h
    · rename_i ho
      obtain rfl := Nat.eq_of_beq_eq_true ho
      rw [Rel] at hp
      obtain ⟨R, C, hS, rfl⟩ := hp
      obtain ⟨hlt, _, hB⟩ := hI.blk _ _ _ _ hS
      split at h
      · rename_i since seen last hb
        simp only [Option.some.injEq, Act.val.injEq] at h
        obtain ⟨rfl, rfl⟩ := h
        obtain ⟨_, m', hR, hm'⟩ := hB _ hb
        cases m' with
        | some q => exact hm'.elim
        | none =>
          refine ⟨.tuple #[.bool false], w, ?_, Step.refl hI, by rw [Rel]; exact ⟨_, rfl, RelL.cons (by rw [Rel]) RelL.nil⟩⟩
          simp only [Instr.next, Sem.run_bind, run_getIter hR, Result.andThen_ok, Sem.run_pure]
      · rename_i m since seen last hb
        obtain ⟨_, m', hR, hm'⟩ := hB _ hb
        cases m' with
        | none => exact hm'.elim
        | some R' =>
          obtain ⟨C', hm'⟩ := hm'
          split at h
          · rename_i es clock hmb
            obtain ⟨hlt', _, hB'⟩ := hI.blk _ _ _ _ hm'
            obtain ⟨_, es', hR', hes⟩ := hB' _ hmb
            split at h
            · cases h
            · rename_i hcond
              have hc1 : (!seen.toArray.isEmpty && !es'.isEmpty && es'.all fun x => decide (x.born ≥ last)) = false := by
                obtain ⟨l⟩ := es'
                have e1 := hes.all (n := last)
                have e2 := hes.isEmpty
                simp only [List.isEmpty_toArray, List.all_toArray] at e1 e2 ⊢
                rw [e2, e1]
                simpa using hcond
              have hl := hes.left (seen := seen)
              have hfl : (es'.filter fun e => !seen.toArray.contains e.born) = (es'.toList.filter fun e => !seen.toArray.contains e.born).toArray := by
                obtain ⟨l⟩ := es'
                simp
              split at h
              · rename_i hleft
                rw [hleft] at hl
                simp only [RelE] at hl
                simp only [Option.some.injEq, Act.val.injEq] at h
                obtain ⟨rfl, rfl⟩ := h
                refine ⟨.tuple #[.bool false], w, ?_, Step.refl hI, by rw [Rel]; exact ⟨_, rfl, RelL.cons (by rw [Rel]) RelL.nil⟩⟩
                simp only [Instr.next, Sem.run_bind, run_getIter hR, run_getMap hR', Result.andThen_ok, Sem.run_pure, hc1, hfl, hl]
                simp [Question.forced]
              · rename_i k v s hleft
                rw [hleft] at hl
                simp only [RelE] at hl
                obtain ⟨x, l', hl1, h1, h2, h3, rfl⟩ := hl
                split at h
                · rename_i hs
                  simp only [Option.some.injEq, Act.val.injEq] at h
                  obtain ⟨rfl, rfl⟩ := h
                  have hs : x.born < since := by rw [h3]; simpa using hs
                  refine ⟨.tuple #[.bool true, x.key, x.val], _, ?_, Step.setIter (since2 := since) (seen2 := seen ++ [s]) (last2 := clock) hI hS hb hm', by rw [Rel]; exact ⟨_, rfl, RelL.cons (by rw [Rel]) (RelL.cons h1 (RelL.cons h2 RelL.nil))⟩⟩
                  simp only [Instr.next, Sem.run_bind, run_getIter hR, run_getMap hR', Result.andThen_ok, Sem.run_pure, hc1, hfl, hl1]
                  have f1 : ([x].toArray.filter fun e => decide (e.born < since)) = #[x] := by simp [hs]
                  have f2 : ([x].toArray.filter fun e => decide (e.born ≥ since)) = #[] := by simp; omega
                  simp only [f1, f2]
                  simp [Question.forced, run_setIter hR, h3]
                · cases h
              · cases h
          · cases h
      · cases h
    · cases h
  · cases h

theorem entryA_ok (hI : Inv G S H w) {p r : AV} {vp : Value} {H' : Heap} (hp : Rel S p vp) (h : entryA H p = some (.val r H')) :
    ∃ v w', (Instr.entry vp).run P w = .ok v w' ∧ Step G S H w S H' w' ∧ Rel S r v := by
  unfold entryA at h
  split at h
  · rename_i b ver o
    split at h
    · rename_i ho
      obtain rfl := Nat.eq_of_beq_eq_true ho
      rw [Rel] at hp
      obtain ⟨R, C, hS, rfl⟩ := hp
      obtain ⟨hlt, _, hB⟩ := hI.blk _ _ _ _ hS
      split at h
      · rename_i m since seen stepped hb
        obtain ⟨_, m', hR, hm'⟩ := hB _ hb
        cases m' with
        | none => exact hm'.elim
        | some R' =>
          obtain ⟨C', hm'⟩ := hm'
          split at h
          · rename_i n es clock hseen hmb
            obtain ⟨hlt', _, hB'⟩ := hI.blk _ _ _ _ hm'
            obtain ⟨_, es', hR', hes⟩ := hB' _ hmb
            split at h
            · rename_i hck
              obtain rfl := Nat.eq_of_beq_eq_true hck
              split at h
              · rename_i k v hbo
                simp only [Option.some.injEq, Act.val.injEq] at h
                obtain ⟨rfl, rfl⟩ := h
                obtain ⟨e, g1, g2, g3⟩ := hes.bornAt hbo
                have g1 : es'.find? (fun e => e.born == n) = some e := by
                  obtain ⟨l⟩ := es'
                  simpa using g1
                have hback : seen.toArray.back? = some n := by simpa using hseen
                refine ⟨.tuple #[e.key, e.val], w, ?_, Step.refl hI, by rw [Rel]; exact ⟨_, rfl, RelL.cons g2 (RelL.cons g3 RelL.nil)⟩⟩
                simp only [Instr.entry, Sem.run_bind, run_getIter hR, run_getMap hR', Result.andThen_ok, Sem.run_pure, hback, g1]
                simp
              · cases h
            · cases h
          · cases h
      · cases h
    · cases h
  · cases h
theorem rangeA_no {m : AV} {f : Nat} {l : List AV} (h : rangeA H m = some (.enter f l)) : False := by
  unfold rangeA at h
  revert h
  repeat' split
  all_goals (intro h; simp at h)
theorem nextA_no {m : AV} {f : Nat} {l : List AV} (h : nextA H m = some (.enter f l)) : False := by
  unfold nextA at h
  revert h
  repeat' split
  all_goals (intro h; simp at h)
theorem entryA_no {m : AV} {f : Nat} {l : List AV} (h : entryA H m = some (.enter f l)) : False := by
  unfold entryA at h
  revert h
  repeat' split
  all_goals (intro h; simp at h)
end
end Go.Abs
