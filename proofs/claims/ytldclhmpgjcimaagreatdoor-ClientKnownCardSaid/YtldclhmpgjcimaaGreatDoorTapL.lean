/- The abstract evaluator: operations that make a block. -/
import Derived.Test.YtldclhmpgjcimaaGreatDoorTapJ
namespace Go.Abs
open Go
section
variable {G : Glob} {P : Program} {S : Map} {E : Env} {a : Go.Act} {H : Heap}

def NewIs (G : Glob) (P : Program) (S : Map) (s : Sem Next) (blk : Blk) (mk : Nat → AV) : Prop :=
  ∀ w, ∃ obj C d v, s.run P w = .ok (.value v) { pushW w obj with drawn := d } ∧ (∀ S' b, S.le S' → S' b 0 = some (w.heap.size, C) → Rel S' (mk b) v) ∧
    (∀ S' (w'' : World), S.le S' → w''.heap[w.heap.size]? = some obj → BlkRel G S' 0 w.heap.size C w'' blk)

theorem new_cells {S' : Map} {w'' : World} {R e : Nat} {l : List AV} {arr : Array Value} {C : Nat} (hr : RelL S l arr.toList) (hs : ∀ x ∈ l, x.scalar = true) (hle : S.le S') (hw : w''.heap[R]? = some (.cells arr e))
    (hC : ∀ i, G.ty e = some i → C * i.size ≤ arr.size) : BlkRel G S' 0 R C w'' (newCells e l) := by
  have h : arr = (arr.toList ++ []).toArray := by simp
  refine newCells_rel (rest := []) (hr.mono hle) hs (fr := (0, 0)) ?_ (by intro i _ h; omega) (by simpa using hC)
  rw [← h]; exact hw

theorem rep_get : ∀ (z : List AV) (n i : Nat), i < n * z.length → (rep z n)[i]? = z[i % z.length]?
  | z, 0, i, h => by omega
  | z, n + 1, i, h => by
    unfold rep
    by_cases hi : i < z.length
    · rw [List.getElem?_append_left hi, Nat.mod_eq_of_lt hi]
    · rw [List.getElem?_append_right (by omega), rep_get z n (i - z.length) (by rw [Nat.succ_mul] at h; omega)]
      congr 1
      conv => rhs; rw [show i = (i - z.length) + z.length from by omega, Nat.add_mod_right]
theorem rep_length : ∀ (z : List AV) (n : Nat), (rep z n).length = n * z.length
  | z, 0 => by simp [rep]
  | z, n + 1 => by simp [rep, rep_length z n, Nat.succ_mul]; omega
theorem rep_scalar {z : List AV} (h : ∀ x ∈ z, x.scalar = true) : ∀ n, ∀ x ∈ rep z n, x.scalar = true
  | 0, x, hx => by simp [rep] at hx
  | n + 1, x, hx => by
    rcases List.mem_append.1 hx with hx | hx
    · exact h x hx
    · exact rep_scalar h n x hx
theorem rep_rel {z : List AV} {zc : Array Value} (h : RelL S z zc.toList) (n : Nat) (hz : zc.size = z.length) :
    RelL S (rep z n) ((Array.range (n * z.length)).map (fun i => zc[i % zc.size]!)).toList := by
  apply RelL.of_get
  · simp [rep_length]
  · intro i y v hy hv
    have hi : i < n * z.length := by
      have := (List.getElem?_eq_some_iff.1 hy).1
      rwa [rep_length] at this
    rw [rep_get z n i hi] at hy
    have hz0 : 0 < z.length := by
      rcases Nat.eq_zero_or_pos z.length with h0 | h0
      · rw [h0] at hi; omega
      · exact h0
    have hm := Nat.mod_lt i hz0
    have : v = zc[i % zc.size]! := by
      simp [hi] at hv
      exact hv.symm
    subst this
    refine h.at hy ?_
    rw [hz, Array.getElem?_toList, Array.getElem!_eq_getD, Array.getD_eq_getD_getElem?]
    have : i % z.length < zc.size := by omega
    simp [this]

theorem freeze_new (w : World) (c : Array Value) (e : TypeId) : World.freeze { w with heap := w.heap.push (.cells c e) } ⟨w.heap.size, c.size, none⟩ 1 = pushW w (.cells c e (c.size, c.size + 1)) := by
  have h : ((w.heap.push (Obj.cells c e)).modify w.heap.size fun | .cells c' elem (lo, hi) => .cells c' elem (if lo == hi then (c.size, c.size + 1) else (min lo c.size, max hi (c.size + 1))) | o => o) = w.heap.push (.cells c e (c.size, c.size + 1)) := by
    apply Array.ext_getElem?
    intro j
    rw [Array.getElem?_modify, Array.getElem?_push, Array.getElem?_push]
    by_cases hj : j = w.heap.size
    · subst hj; simp
    · rw [if_neg (by omega), if_neg hj, if_neg hj]
  unfold World.freeze
  rw [if_neg (by decide)]
  exact congrArg (fun x => ({ w with heap := x } : World)) h
theorem all_scalar {l : List AV} (h : l.all AV.scalar = true) : ∀ x ∈ l, x.scalar = true := by simpa using h

theorem newOp_ok (hG : GlobOk G P) (hE : EnvRel S E a) {o : Oper} {blk : Blk} {mk : Nat → AV} (h : newOp G E o = some (blk, mk)) : NewIs G P S (execOp a.eval o) blk mk := by
  unfold newOp at h
  split at h
  all_goals try (cases h; done)
  · rename_i t ho
    split at h
    · rename_i z hz
      split at h
      · rename_i hs
        simp only [Option.some.injEq, Prod.mk.injEq] at h
        obtain ⟨rfl, rfl⟩ := h
        obtain ⟨zv, hzr, hzrun⟩ := run_zero hG hz
        intro w
        refine ⟨.cells zv.cells t, 0, w.drawn, .pointer (some ⟨w.heap.size, 0, none⟩), ?_, ?_, ?_⟩
        · simp [execOp, ho, Instr.alloc, hzrun, newVar, newRow]; rfl
        · intro S' b _ hb; rw [Rel]; exact ⟨_, _, hb, rfl⟩
        · intro S' w'' hle hw
          exact new_cells (hzr S).cells (all_scalar hs) hle hw (by simp)
      · cases h
    · cases h
  · rename_i t x ho
    split at h
    · rename_i z hz
      split at h
      · rename_i hs
        simp only [Option.some.injEq, Prod.mk.injEq] at h
        obtain ⟨rfl, rfl⟩ := h
        intro w
        refine ⟨.cells (a.eval x).cells t, 0, w.drawn, .pointer (some ⟨w.heap.size, 0, none⟩), ?_, ?_, ?_⟩
        · simp [execOp, ho, Instr.box, newVar, newRow]; rfl
        · intro S' b _ hb; rw [Rel]; exact ⟨_, _, hb, rfl⟩
        · intro S' w'' hle hw
          exact new_cells (opnd_rel hG hE hz).cells (all_scalar hs) hle hw (by simp)
      · cases h
    · cases h
  · rename_i t len parts ho
    split at h
    · rename_i e hu
      split at h
      · rename_i sz z ps hsz hz hps
        split at h
        · rename_i hc
          simp only [Bool.and_eq_true, Nat.blt_eq] at hc
          obtain ⟨hlt, hzl⟩ := hc
          have hzl := Nat.eq_of_beq_eq_true hzl
          split at h
          · rename_i cs hcs
            split at h
            · rename_i hs
              simp only [Option.some.injEq, Prod.mk.injEq] at h
              obtain ⟨rfl, rfl⟩ := h
              obtain ⟨zv, hzr, hzrun⟩ := run_zero hG hz
              have hzc := (hzr S).cells
              have hzs : zv.cells.size = z.cells.length := by simpa using hzc.length
              have hrel : RelL S (rep z.cells len) (((Array.range (len * sz)).map (fun i => (if len * sz = 0 then #[] else zv.cells)[i % (if len * sz = 0 then #[] else zv.cells : Array Value).size]!)).toList) := by
                by_cases h0 : len * sz = 0
                · have : rep z.cells len = [] := by
                    apply List.eq_nil_of_length_eq_zero
                    rw [rep_length, hzl, h0]
                  rw [this, h0]
                  simpa using RelL.nil
                · simp only [if_neg h0]
                  have := rep_rel hzc len hzs
                  rwa [hzl] at this
              obtain ⟨arr, h1, h2⟩ := fillA_ok (S := S) (place' := fun i => some (i * sz, sz)) (by intro i y hy; exact hy) ps _ _ cs _ hcs (parts_rel hG hE hps) hrel
              intro w
              refine ⟨.cells arr e, 0, w.drawn, .slice (some ⟨w.heap.size, 0, none⟩) len len, ?_, ?_, ?_⟩
              · have h1' : Instr.fill (fun i => some (i * sz, sz)) ((Array.range (len * sz)).map (fun i => (if len * sz = 0 then #[] else zv.cells)[i % (if len * sz = 0 then #[] else zv.cells : Array Value).size]!)) ((parts.map fun (i, x) => (i, a.eval x)).toList) = some arr := by simpa using h1
                have hn : ¬ (len * sz > 2 ^ 24) := by omega
                simp only [execOp, ho, Instr.buildSlice, Sem.run_bind, run_und hG hu, run_size hG hsz, Result.andThen_ok, if_neg hn]
                by_cases h0 : len * sz = 0
                · simp only [if_pos h0] at h1' ⊢
                  simp only [Sem.run_bind, Sem.run_pure, Result.andThen_ok, h1', newRow, run_newObj]
                  rfl
                · simp only [if_neg h0] at h1' ⊢
                  simp only [Sem.run_bind, hzrun, Sem.run_pure, Result.andThen_ok, h1', newRow, run_newObj]
                  rfl
              · intro S' b _ hb; rw [Rel]; exact ⟨_, _, hb, rfl, Nat.le_refl _⟩
              · intro S' w'' hle hw
                exact new_cells h2 (all_scalar hs) hle hw (by simp)
            · cases h
          · cases h
        · cases h
      · cases h
    · cases h
  · rename_i t ho
    simp only [Option.some.injEq, Prod.mk.injEq] at h
    obtain ⟨rfl, rfl⟩ := h
    intro w
    refine ⟨.map #[] 0, 0, w.drawn, .map (some w.heap.size), ?_, ?_, ?_⟩
    · simp [execOp, ho, Instr.makeMap]; rfl
    · intro S' b _ hb; rw [Rel]; exact ⟨_, _, hb, rfl⟩
    · intro S' w'' _ hw
      exact ⟨rfl, #[], hw, by simp [RelE]⟩
  · rename_i t x ho
    split at h
    · rename_i k e kk n hu hx
      simp only [Option.some.injEq, Prod.mk.injEq] at h
      obtain ⟨rfl, rfl⟩ := h
      have hr := opnd_rel hG hE hx
      rw [Rel] at hr
      intro w
      refine ⟨.map #[] 0, 0, w.drawn, .map (some w.heap.size), ?_, ?_, ?_⟩
      · simp [execOp, ho, Instr.makeMap, hr, run_und hG hu, asInt, asIntOf]; rfl
      · intro S' b _ hb; rw [Rel]; exact ⟨_, _, hb, rfl⟩
      · intro S' w'' _ hw
        exact ⟨rfl, #[], hw, by simp [RelE]⟩
    · cases h
  · rename_i t l c ho
    split at h
    · rename_i e hu
      split at h
      · rename_i i z k1 n k2 m hi hz hl hc
        split at h
        · rename_i hcond
          simp only [Bool.and_eq_true, Nat.ble_eq, Nat.blt_eq] at hcond
          obtain ⟨⟨⟨⟨hnm, hmb⟩, hm⟩, hzl⟩, hs⟩ := hcond
          have hzl := Nat.eq_of_beq_eq_true hzl
          simp only [Option.some.injEq, Prod.mk.injEq] at h
          obtain ⟨rfl, rfl⟩ := h
          obtain ⟨zv, hzr, hzrun⟩ := run_zero hG hz
          have hzc := (hzr S).cells
          have hzs : zv.cells.size = z.cells.length := by simpa using hzc.length
          have hl := opnd_rel hG hE hl
          have hc := opnd_rel hG hE hc
          rw [Rel] at hl; rw [Rel] at hc
          have hsz : size G e = some i.size := by simp [size, hi]
          have hrel : RelL S (rep z.cells m) (((Array.range (m * i.size)).map (fun j => (if m * i.size = 0 then #[] else zv.cells)[j % (if m * i.size = 0 then #[] else zv.cells : Array Value).size]!)).toList) := by
            by_cases h0 : m * i.size = 0
            · have : rep z.cells m = [] := by
                apply List.eq_nil_of_length_eq_zero
                rw [rep_length, hzl, h0]
              rw [this, h0]
              simpa using RelL.nil
            · simp only [if_neg h0]
              have := rep_rel hzc m hzs
              rwa [hzl] at this
          intro w
          refine ⟨.cells ((Array.range (m * i.size)).map (fun j => (if m * i.size = 0 then #[] else zv.cells)[j % (if m * i.size = 0 then #[] else zv.cells : Array Value).size]!)) e, 0, w.drawn, .slice (some ⟨w.heap.size, 0, none⟩) n m, ?_, ?_, ?_⟩
          · have w1 : IntKind.i64.wrap (Int.ofNat n) = (n : Int) := wrap_small (k := .i64) (by simp [lim]; omega)
            have w2 : IntKind.i64.wrap (Int.ofNat m) = (m : Int) := wrap_small (k := .i64) (by simp [lim]; omega)
            have hmb' : (i.bytes : Int) * (m : Int) < 1073741824 := by
              have : (m * i.bytes : Nat) = i.bytes * m := Nat.mul_comm _ _
              have h2 : ((i.bytes * m : Nat) : Int) < 1073741824 := by omega
              rwa [Int.natCast_mul] at h2
            have c1 : ¬ ((decide ((m : Int) < 0) || decide ((i.bytes : Int) * (m : Int) > 2 ^ 48) || decide ((n : Int) < 0) || decide ((n : Int) > (m : Int))) = true) := by
              simp; omega
            simp only [execOp, ho, Instr.makeSlice, Sem.run_bind, run_und hG hu, run_info hG hi, run_size hG hsz, Result.andThen_ok, hl, hc, asInt, asIntOf, Sem.run_pure, w1, w2, if_neg c1, run_askRoom, Int.toNat_natCast]
            by_cases h0 : m * i.size = 0
            · simp only [if_pos h0]
              simp only [Sem.run_bind, Sem.run_pure, Result.andThen_ok, newRow, run_newObj]
              rfl
            · simp only [if_neg h0]
              simp only [Sem.run_bind, hzrun, Sem.run_pure, Result.andThen_ok, newRow, run_newObj]
              rfl
          · intro S' b _ hb; rw [Rel]; exact ⟨_, _, hb, rfl, hnm⟩
          · intro S' w'' hle hw
            exact new_cells hrel (rep_scalar (all_scalar hs) m) hle hw (by simp)
        · cases h
      · cases h
    · cases h
  · rename_i src dst x ho
    split at h
    · rename_i e s hus hud hx
      split at h
      · rename_i hue
        split at h
        · rename_i hse
          simp only [Option.some.injEq, Prod.mk.injEq] at h
          obtain ⟨rfl, rfl⟩ := h
          have hr := opnd_rel hG hE hx
          rw [Rel] at hr
          obtain ⟨he, hb⟩ := hr
          intro w
          have hsz : (mkStr s).size = s.length := by simp [mkStr, ByteArray.size]
          obtain ⟨cap, hcap, hrun⟩ : ∃ cap, s.length ≤ cap ∧ (choose (.appendCap (mkStr s).size 0 e)).run P w = .ok cap { w with drawn := w.drawn + 1 } := by
            refine ⟨_, ?_, by simp only [run_choose, Question.forced]; rfl⟩
            simp only [Question.cut, hsz]; omega
          have hdata : (mkStr s).data.map (fun b => Value.int .u8 (b.toNat : Int)) = (s.map byteV).toArray := by
            simp only [mkStr, List.map_toArray, List.map_map, Array.mk.injEq]
            apply List.map_congr_left
            intro c hc
            have := hb c hc
            simp [byteV]
            omega
          rw [hsz] at hrun
          refine ⟨.cells ((s.map byteV).toArray ++ Array.replicate (cap - s.length) (Value.int .u8 0)) e (((s.map byteV).toArray ++ Array.replicate (cap - s.length) (Value.int .u8 0)).size, ((s.map byteV).toArray ++ Array.replicate (cap - s.length) (Value.int .u8 0)).size + 1), cap, w.drawn + 1, .slice (some ⟨w.heap.size, 0, none⟩) s.length cap, ?_, ?_, ?_⟩
          · simp only [execOp, ho, he, convert, run_und hG hus, run_und hG hud, run_und hG hue, Sem.run_bind, Result.andThen_ok, Conv.stringToBytes, hrun, hdata, hsz, newRow, run_newObj, Sem.run_pure, markStringish, run_shape]
            have hsh : ∀ (c : Array Value) (w : World), World.shape? { w with heap := w.heap.push (.cells c e) } w.heap.size = some (e, c.size) := by
              intro c w; simp [World.shape?]
            have := hsh ((s.map byteV).toArray ++ Array.replicate (cap - s.length) (Value.int .u8 0)) { w with drawn := w.drawn + 1 }
            simp only at this
            rw [this]
            simp only [run_freeze, Result.andThen_ok, Sem.run_pure]
            rw [freeze_new { w with drawn := w.drawn + 1 }]
            rfl
          · intro S' b _ hb; rw [Rel]; exact ⟨_, _, hb, rfl, by omega⟩
          · intro S' w'' hle hw
            have hl : RelL S (s.map fun c => AV.int .u8 (.ofNat c)) (s.map byteV) := by
              apply RelL.of_get
              · simp
              · intro i y v hy hv
                simp only [List.getElem?_map, Option.map_eq_some_iff] at hy hv
                obtain ⟨c, hc, rfl⟩ := hy
                obtain ⟨c', hc', rfl⟩ := hv
                rw [hc] at hc'; cases hc'
                rw [Rel]; rfl
            have e1 : (s.map byteV).toArray ++ Array.replicate (cap - s.length) (Value.int .u8 0) = (s.map byteV ++ List.replicate (cap - s.length) (Value.int .u8 0)).toArray := by
              apply Array.ext'; simp
            refine newCells_rel (hl.mono hle) (by intro x hx; simp only [List.mem_map] at hx; obtain ⟨_, _, rfl⟩ := hx; rfl) (rest := List.replicate (cap - s.length) (Value.int .u8 0)) (fr := _) (by rw [hw, ← e1]) ?_ ?_
            · intro i hi; simp at hi ⊢; omega
            · intro i hi
              have : i.size = 1 := by
                unfold size at hse; rw [hi] at hse; simpa using hse
              rw [this]; simp; omega
        · cases h
      · cases h
    · cases h
end
end Go.Abs
