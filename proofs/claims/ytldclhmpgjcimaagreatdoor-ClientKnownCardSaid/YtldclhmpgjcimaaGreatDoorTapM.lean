/- The abstract evaluator: appending. -/
import Derived.Test.YtldclhmpgjcimaaGreatDoorTapL
namespace Go.Abs
open Go
section
variable {G : Glob} {P : Program} {S : Map} {E : Env} {a : Go.Act} {H : Heap} {w : World}

theorem cellsGet_at {t : T (AV × Nat)} {v : Nat} : ∀ (n o : Nat) (l : List AV), cellsGet t v o n = some l → l.length = n
  | 0, o, l, h => by simp [cellsGet_zero] at h; subst h; rfl
  | n + 1, o, l, h => by
    rw [cellsGet_succ] at h
    split at h
    · cases h
    · split at h
      · split at h
        · cases h
        · rename_i l' hl'
          obtain rfl := Option.some.inj h
          simp [cellsGet_at n _ l' hl']
      · cases h
theorem loadRow_length {b v o n : Nat} {l : List AV} (h : loadRow H b v o n = some l) : l.length = n := by
  unfold loadRow at h
  split at h
  · exact cellsGet_at _ _ _ h
  · cases h
theorem cellsCut_get {t : T (AV × Nat)} : ∀ (n i : Nat) (x : AV × Nat), (cellsCut t n).get i = some x → i < n ∧ t.get i = some x
  | 0, i, x, h => by simp [cellsCut, T.get_nil] at h
  | n + 1, i, x, h => by
    unfold cellsCut at h
    split at h
    · obtain ⟨h1, h2⟩ := cellsCut_get n i x h; exact ⟨by omega, h2⟩
    · rename_i y hy
      rcases T.get_set fuel _ _ _ _ _ h with ⟨rfl, rfl⟩ | ⟨_, h⟩
      · exact ⟨by omega, hy⟩
      · obtain ⟨h1, h2⟩ := cellsCut_get n i x h; exact ⟨by omega, h2⟩

/-- What is appended: how much, and its cells. -/
theorem source_ok (hI : Inv G S H w) {sz n : Nat} {x : AV} {vx : Value} {l : List AV} (h : sourceA H sz x = some (n, l)) (hr : Rel S x vx) :
    (Builtin.lenOf vx).run P w = .ok n w ∧ l.length = n * sz ∧ (∀ y ∈ l, y.scalar = true) ∧ ∃ arr : List Value, RelL S l arr ∧ ∀ w' : World, w'.heap = w.heap → (Builtin.firstCells sz n vx).run P w' = .ok arr.toArray w' := by
  unfold sourceA at h
  split at h
  · simp only [Option.some.injEq, Prod.mk.injEq] at h
    obtain ⟨rfl, rfl⟩ := h
    rw [Rel] at hr; subst hr
    exact ⟨by simp [Builtin.lenOf], by simp, by simp, [], RelL.nil, fun w' _ => by simp [Builtin.firstCells]⟩
  · simp only [Option.some.injEq, Prod.mk.injEq] at h
    obtain ⟨rfl, rfl⟩ := h
    rw [Rel] at hr; obtain ⟨ad, c, rfl⟩ := hr
    exact ⟨by simp [Builtin.lenOf], by simp, by simp, [], RelL.nil, fun w' _ => by simp [Builtin.firstCells, loadCells, loadCellsFrom]⟩
  · rename_i b v o el m cap
    simp only [Option.map_eq_some_iff] at h
    obtain ⟨l', hl, he⟩ := h
    simp only [Prod.mk.injEq] at he
    obtain ⟨rfl, rfl⟩ := he
    obtain ⟨R, T, k, rfl, hS, _⟩ := hr.slice_inv
    obtain ⟨arr, h1, h2, h3, h4⟩ := run_loadRow' (P := P) hI hS hl
    exact ⟨by simp [Builtin.lenOf], loadRow_length hl, h2, arr, h1, fun w' hw => by simp [Builtin.firstCells, h4 w' hw]⟩
  · rename_i s
    split at h
    · rename_i hs
      obtain rfl := Nat.eq_of_beq_eq_true hs
      simp only [Option.some.injEq, Prod.mk.injEq] at h
      obtain ⟨rfl, rfl⟩ := h
      rw [Rel] at hr
      obtain ⟨rfl, hb⟩ := hr
      have hsz : (mkStr s).size = s.length := by simp [mkStr, ByteArray.size]
      refine ⟨by simp [Builtin.lenOf, hsz], by simp, ?_, s.map byteV, ?_, ?_⟩
      · intro x hx; simp only [List.mem_map] at hx; obtain ⟨_, _, rfl⟩ := hx; rfl
      · apply RelL.of_get
        · simp
        · intro i y v hy hv
          simp only [List.getElem?_map, Option.map_eq_some_iff] at hy hv
          obtain ⟨c, hc, rfl⟩ := hy
          obtain ⟨c', hc', rfl⟩ := hv
          rw [hc] at hc'; cases hc'
          rw [Rel]; rfl
      · have e : (mkStr s).extract 0 s.length = mkStr s := by rw [mkStr_extract]; simp
        have hdata : (mkStr s).data.map (fun b => Value.int .u8 (b.toNat : Int)) = (s.map byteV).toArray := by
          simp only [mkStr, List.map_toArray, List.map_map, Array.mk.injEq]
          apply List.map_congr_left
          intro c hc
          have := hb c hc
          simp [byteV]
          omega
        intro w' _
        simp only [Builtin.firstCells, e, hdata, Sem.run_pure]
    · cases h
  · cases h

theorem growBy_le (need : Nat) : ∀ (k c : Nat), c < need → Builtin.growBy need k c ≤ 2 * need + 200
  | 0, c, h => by simp [Builtin.growBy]; omega
  | k + 1, c, h => by
    unfold Builtin.growBy
    split
    · omega
    · by_cases hc : c + (c + 768) / 4 < need
      · exact growBy_le need k _ hc
      · cases k with
        | zero => simp [Builtin.growBy]; omega
        | succ k => unfold Builtin.growBy; rw [if_pos (by omega)]; omega
theorem nextslicecap_le {need old : Nat} (h : old < need) : Builtin.nextslicecap need old ≤ 2 * need + 200 := by
  unfold Builtin.nextslicecap
  split
  · omega
  · split
    · omega
    · exact growBy_le need 4 old h

theorem notInt (xd : TypeDesc) : (∀ k, xd ≠ .int k) → (xd matches .int _) = false := by
  intro h
  cases xd <;> first | rfl | exact absurd rfl (h _)
/-- The run of append, up to where it grows. -/
theorem append_grows {t e xt : Nat} {i : TypeInfo} {xd : TypeDesc} {zv : Value} {base : Option Addr} {sLen sCap n : Nat} {vx : Value} {old new : List Value} (hG : GlobOk G P) (hu : und G t = some (.slice e)) (hi : G.ty e = some i)
    (hz : ∀ w, (zeroValue e).run P w = .ok zv w) (hx : und G xt = some xd) (hxd : ∀ k, xd ≠ .int k) (hzs : zv.cells.size = i.size)
    (ts : Array TypeId) (ht0 : ts[0]? = some t) (ht1 : ts[1]? = some xt) (ty : TypeId) (w : World)
    (hlen : ∀ w, (Builtin.lenOf vx).run P w = .ok n w) (hneed : ¬ (sLen + n ≤ sCap)) (hb : sLen + n < 1073741824) (hbytes : i.bytes < 65536)
    (hold : ∀ w' : World, w'.heap = w.heap → (Builtin.firstCells i.size sLen (.slice base sLen sCap)).run P w' = .ok old.toArray w')
    (hnew : ∀ w' : World, w'.heap = w.heap → (Builtin.firstCells i.size n vx).run P w' = .ok new.toArray w') :
    ∃ (cap : Nat) (rest : List Value), sLen + n ≤ cap ∧ rest.length = (cap - (sLen + n)) * i.size ∧
      (Builtin.append_ ts ty #[.slice base sLen sCap, vx]).run P w = .ok (.slice (some ⟨w.heap.size, 0, none⟩) (sLen + n) cap) { pushW w (.cells ((old ++ new) ++ rest).toArray e) with drawn := w.drawn + 1 } := by
  have hcut : ∃ cap, sLen + n ≤ cap ∧ ∀ w' : World, w'.heap = w.heap → w' = w → (choose (.appendCap (sLen + n) sCap e)).run P w' = .ok cap { w with drawn := w.drawn + 1 } := by
    refine ⟨(Question.appendCap (sLen + n) sCap e).cut (w.tape w.drawn (.appendCap (sLen + n) sCap e)), ?_, ?_⟩
    · simp only [Question.cut]; omega
    · rintro w' _ rfl
      simp only [run_choose, Question.forced]; rfl
  obtain ⟨cap, hcap, hch⟩ := hcut
  refine ⟨cap, (Builtin.zeroCells zv.cells (cap - (sLen + n))).toList, hcap, by simp [Builtin.zeroCells, hzs], ?_⟩
  have hmax : ¬ (((sLen + n : Nat) : Int) > IntKind.i64.max ∧ (False ∨ i.bytes = 0)) := by
    have : IntKind.i64.max = 9223372036854775807 := by decide
    rw [this]; omega
  have hnx := nextslicecap_le (show sCap < sLen + n by omega)
  have hroom : ¬ (Builtin.nextslicecap (sLen + n) sCap * i.bytes > 2 ^ 48) := by
    have h1 : Builtin.nextslicecap (sLen + n) sCap * i.bytes ≤ (2 * (sLen + n) + 200) * 65536 := Nat.mul_le_mul hnx (by omega)
    omega
  have hsz : size G e = some i.size := by simp [size, hi]
  have hc := hch w rfl rfl
  have ho := hold { w with drawn := w.drawn + 1 } rfl
  have hn := hnew { w with drawn := w.drawn + 1 } rfl
  have g0 : (#[Value.slice base sLen sCap, vx] : Array Value)[0]? = some (.slice base sLen sCap) := rfl
  have g1 : (#[Value.slice base sLen sCap, vx] : Array Value)[1]? = some vx := rfl
  have hni := notInt xd hxd
  have hf0 : ¬ ((false : Bool) = true) := by decide
  have hmax2 : ¬ (((sLen + n : Nat) : Int) > IntKind.i64.max ∧ ((false : Bool) = true ∨ i.bytes = 0)) := by
    intro h; apply hmax; exact ⟨h.1, .inr (h.2.resolve_left hf0)⟩
  have hnf : (!false) = true := rfl
  unfold Builtin.append_
  simp only [ht0, ht1, g0, g1, Sem.run_bind, run_und hG hu, run_size hG hsz, run_und hG hx, Result.andThen_ok, Sem.run_pure, hni, if_neg hf0, hlen, if_neg hneed, run_info hG hi, if_neg hmax2, if_neg hroom, hc, run_askRoom, ho, hn, if_pos hnf, hz, newRow, run_newObj]
  have earr : (old ++ new ++ (Builtin.zeroCells zv.cells (cap - (sLen + n))).toList).toArray = old.toArray ++ new.toArray ++ Builtin.zeroCells zv.cells (cap - (sLen + n)) := by
    apply Array.ext'; simp
  rw [earr]
  rfl
end
end Go.Abs
