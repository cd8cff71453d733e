/- What stands in for the checksums, the order of hashes and the place of a byte is what the program does. -/
import Derived.Test.YtldclhmpgjcimaaGreatDoorTapZ
import Derived.Test.YtldclhmpgjcimaaGreatDoorTapS2
import Derived.Test.YtldclhmpgjcimaaGreatDoorTapS3
import Derived.Lib.Bytealg
namespace Go.Abs
open Go
section
variable {G : Glob} {P : Program} {S : Map} {H : Heap} {w w' : World}
/-- New memory that nothing abstract knows. -/
theorem Step.still (hI : Inv G S H w) (hr : ∀ R, R < w.heap.size → w'.heap[R]? = w.heap[R]?) (hs : w.heap.size ≤ w'.heap.size) (ho : w'.os = w.os) (ht : w'.tape = w.tape) (hp : w'.output = w.output) : Step G S H w S H w' where
  dom := hI.dom
  le := S.le_refl
  inv := ⟨fun b v R C e => let ⟨h1, h2, h3⟩ := hI.blk b v R C e; ⟨Nat.lt_of_lt_of_le h1 hs, h2, fun x hx => (h3 x hx).mono S.le_refl (hr R h1)⟩, hI.inj,
    hI.fix.of (fun b v _ C e => .inl ⟨b, v, C, e⟩) hs (fun R hR => hr R (Nat.lt_of_lt_of_le hR hI.fix.size))⟩
  os := ho
  tape := ht
  output := hp
  size := hs
  real := fun R hR _ => hr R hR
  abs := fun _ _ e => .inl e
  next := Nat.le_refl _
  top := Nat.le_refl _
  new := fun _ _ _ _ e => .inl e
  newb := fun _ _ _ e => .inl e
theorem load_cells (P : Program) (hI : Inv G S H w) {b v o n R C : Nat} {l : List AV} (hb : S b v = some (R, C)) (h : loadRow H b v o n = some l) :
    ∃ arr : List Value, RelL S l arr ∧ arr.length = n ∧ ∀ j y, arr[j]? = some y → w.cell? ⟨R, o + j, none⟩ = some y := by
  unfold loadRow at h
  split at h
  · rename_i e m cur shut t hx
    obtain ⟨_, _, hB⟩ := hI.blk b v R C hb
    obtain ⟨_, c, fr, hc, ht, _⟩ := hB _ hx
    obtain ⟨arr, h1, _, h3, _, h5⟩ := run_loadFrom (P := P) (R := R) (e := e) (fr := fr) ht n o 0 o l #[] rfl h
    refine ⟨arr, h1, h3, fun j y hj => ?_⟩
    have hjn : j < n := by rw [← h3]; exact (List.getElem?_eq_some_iff.1 hj).1
    obtain ⟨z, g1, g2⟩ := h5 j hjn
    rw [cell_at hc, g1, ← g2, hj]
  · cases h
theorem callR_of {f : Nat} {fn : Func} {c : Code} {vs : Array Value} {R : Value → World → Prop} (hf : P.funcs[f]? = some fn) (hn : (fn.name == "runtime.NumGoroutine") = false) (hb : fn.body = some c)
    (h : Calls P f vs w fun e w' => ∃ v, e = .returned v ∧ R v w') : CallR P f vs w R := by
  unfold CallR
  have hrun : (callFunc f vs).run P w = .ok (.enter f vs) w := by
    have hn' : ¬ fn.name = "runtime.NumGoroutine" := by simpa using hn
    simp [callFunc, hf, hn', hb]
  rw [hrun]
  exact h
theorem callR_value {f : Nat} {vs : Array Value} {v : Value} {R : Value → World → Prop} (h : (callFunc f vs).run P w = .ok (.value v) w') (hR : R v w') : CallR P f vs w R := by
  unfold CallR
  rw [h]
  exact hR
end
end Go.Abs
namespace Go.Proofs
open Go Go.Abs Go.Lib
set_option maxRecDepth 100000

theorem kBit_eq (c : Nat) : kBit c = crcBit c := rfl
theorem kBits_eq : ∀ (n c : Nat), kBits n c = crcBits n c
  | 0, _ => rfl
  | n + 1, c => kBits_eq n (kBit c)
theorem crcBit_lt {c : Nat} (h : c < 4294967296) : crcBit c < 4294967296 := xor_lt (by omega) (by have : c % 2 < 2 := Nat.mod_lt _ (by omega); omega)
theorem crcBits_lt : ∀ (n : Nat) {c : Nat}, c < 4294967296 → crcBits n c < 4294967296
  | 0, _, h => h
  | n + 1, _, h => crcBits_lt n (crcBit_lt h)
theorem crcFold_append : ∀ (l : List Nat) (x c : Nat), crcFold (l ++ [x]) c = crcBits 8 (Nat.xor (crcFold l c) x)
  | [], x, c => by show kBits 8 (Nat.xor c x) = _; rw [kBits_eq]; rfl
  | y :: l, x, c => by show crcFold (l ++ [x]) _ = _; rw [crcFold_append l x]; rfl
theorem crcFold_lt : ∀ (l : List Nat) (c : Nat), (∀ x ∈ l, x < 256) → c < 4294967296 → crcFold l c < 4294967296
  | [], c, _, h => h
  | y :: l, c, hl, h => by
    refine crcFold_lt l _ (fun x hx => hl x (List.mem_cons_of_mem _ hx)) ?_
    rw [kBits_eq]
    have := hl y List.mem_cons_self
    exact crcBits_lt 8 (xor_lt h (by omega))

section
variable {G : Glob} {S : Map} {H H' : Heap} {w : World} {l : List AV} {r : AV} {vs : Array Value}

theorem ovSum_at {f : Nat} (walk : ∀ (X F : Nat → Nat) (b off len cap : Nat) (w : World), len ≤ 9223372036854775807 → (∀ j, X j < 256) → (∀ j, F j < 4294967296) → F 0 = 4294967295 →
      (∀ j, j < len → F (j + 1) = crcBits 8 (Nat.xor (F j) (X j))) → (∀ j, j < len → w.cell? ⟨b, off + j, none⟩ = some (.int .u8 (X j : Nat))) →
      Calls Tryz.prog f #[.slice (some ⟨b, off, none⟩) len cap] w fun e w' => e = .returned (.int .u32 (Nat.xor (F len) 4294967295 : Nat)) ∧ w' = w)
    {fn : Func} {c : Code} (hf : Tryz.prog.funcs[f]? = some fn) (hn : (fn.name == "runtime.NumGoroutine") = false) (hb : fn.body = some c)
    (h : ovSum l H = some (r, H')) (hI : Inv G S H w) (hr : RelL S l vs.toList) : CallR Tryz.prog f vs w fun v w' => ∃ S', Step G S H w S' H' w' ∧ Rel S' r v := by
  unfold ovSum at h
  split at h
  · rename_i x
    split at h
    · rename_i xs hx
      simp only [Option.some.injEq, Prod.mk.injEq] at h
      obtain ⟨hres, hheap⟩ := h
      subst hheap
      obtain ⟨v, l', hv, h1, h2⟩ := hr.cons_inv
      obtain rfl := h2.nil_inv
      have hvs : vs = #[v] := by apply Array.ext'; simpa using hv
      subst hvs
      unfold bytesIn at hx
      split at hx
      · rename_i b ver o el n cp
        split at hx
        · rename_i hbig
          have hbig : n < 9223372036854775808 := by simpa using hbig
          split at hx
          · rename_i row hrow
            obtain ⟨R, T, k, rfl, hS, hk, _⟩ := h1.slice_inv
            obtain ⟨arr, g1, g2, g3⟩ := load_cells Tryz.prog hI hS hrow
            obtain ⟨q1, rfl⟩ := bytesOf_ok _ _ _ hx g1
            have hlen : xs.length = n := by simpa using g2
            refine callR_of hf hn hb ((walk (fun j => xs.getD j 0) (fun j => crcFold (xs.take j) 4294967295) R o n k w (by omega) ?_ ?_ rfl ?_ ?_).mono ?_)
            · intro j
              rw [List.getD_eq_getElem?_getD]
              cases e : xs[j]? with
              | none => simp
              | some y => exact q1 y (List.mem_of_getElem? e)
            · intro j
              exact crcFold_lt _ _ (fun y hy => q1 y (List.mem_of_mem_take hy)) (by omega)
            · intro j hj
              show crcFold (xs.take (j + 1)) _ = crcBits 8 (Nat.xor (crcFold (xs.take j) _) (xs.getD j 0))
              rw [← crcFold_append, List.take_add_one, List.getD_eq_getElem?_getD, List.getElem?_eq_getElem (by omega)]
              rfl
            · intro j hj
              refine g3 j _ ?_
              rw [List.getElem?_map, List.getElem?_eq_getElem (by omega), List.getD_eq_getElem?_getD, List.getElem?_eq_getElem (by omega)]
              rfl
            · rintro e w' ⟨rfl, rfl⟩
              refine ⟨_, rfl, S, Step.refl hI, ?_⟩
              rw [← hres, Rel]
              show Value.int .u32 (Nat.xor (crcFold (xs.take n) 4294967295) 4294967295 : Nat) = _
              rw [List.take_of_length_le (by omega)]
              rfl
          · cases hx
        · cases hx
      · cases hx
    · cases h
  · cases h

theorem lessF_eq : ∀ (n i : Nat) (a b : List Nat), a.length = i + n → b.length = i + n → lessF (fun j => a.getD j 0) (fun j => b.getD j 0) n i = lessL (a.drop i) (b.drop i)
  | 0, i, a, b, ha, hb => by
    rw [List.drop_of_length_le (by omega), List.drop_of_length_le (by omega)]; rfl
  | n + 1, i, a, b, ha, hb => by
    have ea : a.drop i = a[i]'(by omega) :: a.drop (i + 1) := List.drop_eq_getElem_cons (by omega)
    have eb : b.drop i = b[i]'(by omega) :: b.drop (i + 1) := List.drop_eq_getElem_cons (by omega)
    have ga : a.getD i 0 = a[i]'(by omega) := by rw [List.getD_eq_getElem?_getD, List.getElem?_eq_getElem (by omega)]; rfl
    have gb : b.getD i 0 = b[i]'(by omega) := by rw [List.getD_eq_getElem?_getD, List.getElem?_eq_getElem (by omega)]; rfl
    rw [ea, eb]
    simp only [lessF, lessL, ga, gb]
    have ih := lessF_eq n (i + 1) a b (by omega) (by omega)
    cases hq : Nat.beq (a[i]'(by omega)) (b[i]'(by omega)) with
    | true => rw [if_pos (Nat.eq_of_beq_eq_true hq)]; exact ih
    | false =>
      rw [if_neg (Nat.ne_of_beq_eq_false hq)]
      rw [Bool.eq_iff_iff]; simp

theorem ovLess_at (h : ovLess l H = some (r, H')) (hI : Inv G S H w) (hr : RelL S l vs.toList) : CallR Tryz.prog 225 vs w fun v w' => ∃ S', Step G S H w S' H' w' ∧ Rel S' r v := by
  unfold ovLess at h
  split at h
  · rename_i x y
    split at h
    · rename_i a b ha hb
      split at h
      · rename_i hlen
        simp only [Bool.and_eq_true] at hlen
        have hla := Nat.eq_of_beq_eq_true hlen.1
        have hlb := Nat.eq_of_beq_eq_true hlen.2
        simp only [Option.some.injEq, Prod.mk.injEq] at h
        obtain ⟨hres, hheap⟩ := h
        subst hheap
        obtain ⟨v1, l1, hv, h1, h2⟩ := hr.cons_inv
        obtain ⟨v2, l2, rfl, h3, h4⟩ := h2.cons_inv
        obtain rfl := h4.nil_inv
        have hvs : vs = #[v1, v2] := by apply Array.ext'; simpa using hv
        subst hvs
        rw [Rel] at h1 h3
        obtain ⟨A, rfl, h1⟩ := h1
        obtain ⟨B, rfl, h3⟩ := h3
        obtain ⟨qa, ea⟩ := bytesOf_ok _ _ _ ha h1
        obtain ⟨qb, eb⟩ := bytesOf_ok _ _ _ hb h3
        have bound : ∀ (z : List Nat), (∀ c ∈ z, c < 256) → ∀ j, z.getD j 0 < 256 := by
          intro z hz j
          rw [List.getD_eq_getElem?_getD]
          cases e : z[j]? with
          | none => simp
          | some y => exact hz y (List.mem_of_getElem? e)
        have cellz : ∀ (z : List Nat) (Z : Array Value), z.length = 32 → Z.toList = z.map byteV → ∀ j, j < 32 → Z[j]? = some (.int .u8 ((z.getD j 0 : Nat) : Int)) := by
          intro z Z hz e j hj
          rw [← Array.getElem?_toList, e, List.getElem?_map, List.getElem?_eq_getElem (by omega), List.getD_eq_getElem?_getD, List.getElem?_eq_getElem (by omega)]
          rfl
        have sz : ∀ (z : List Nat) (Z : Array Value), z.length = 32 → Z.toList = z.map byteV → Z.size = 32 := by
          intro z Z hz e
          rw [← Array.length_toList, e, List.length_map, hz]
        refine callR_of Tryz.func225 (by kernel_rfl) (show Tryz.f225.body = some _ from rfl) ((less_walk (fun j => a.getD j 0) (fun j => b.getD j 0) A B w (bound a qa) (bound b qb) (sz a A hla ea) (sz b B hlb eb) (cellz a A hla ea) (cellz b B hlb eb)).mono ?_)
        rintro e w' ⟨rfl, hl⟩
        refine ⟨_, rfl, S, Step.still hI (fun R hR => ?_) ?_ hl.os hl.tape hl.output, ?_⟩
        · rw [hl.heap]
          show ((w.heap.push _).push _)[R]? = _
          rw [Array.getElem?_push, if_neg (by simp; omega), Array.getElem?_push, if_neg (by omega)]
        · rw [hl.heap]
          show w.heap.size ≤ ((w.heap.push _).push _).size
          simp; omega
        · rw [← hres, Rel, lessF_eq 32 0 a b (by omega) (by omega)]
          rfl
      · cases h
    · cases h
  · cases h

theorem indexOf_eq (c : Nat) (hc : c < 256) : ∀ (s : List Nat) (i : Nat), (∀ x ∈ s, x < 256) → indexOf c s i = if indexByte (s.map UInt8.ofNat) (UInt8.ofNat c) = -1 then -1 else indexByte (s.map UInt8.ofNat) (UInt8.ofNat c) + i
  | [], i, _ => rfl
  | x :: r, i, hs => by
    have ih := indexOf_eq c hc r (i + 1) (fun y hy => hs y (List.mem_cons_of_mem _ hy))
    have hx := hs x List.mem_cons_self
    simp only [indexOf, List.map_cons, indexByte]
    have hge := indexByte_ge (r.map UInt8.ofNat) (UInt8.ofNat c)
    by_cases e : x = c
    · subst e
      simp
    · have e1 : (UInt8.ofNat x == UInt8.ofNat c) = false := by
        rw [beq_eq_false_iff_ne]
        intro q
        exact e ((ofNat_inj hx hc).1 q)
      have e2 : Nat.beq x c = false := by
        cases hq : Nat.beq x c with
        | false => rfl
        | true => exact (e (Nat.eq_of_beq_eq_true hq)).elim
      rw [e2, ih]
      simp only [e1, Bool.false_eq_true, if_false, beq_iff_eq]
      split
      · simp
      · rw [if_neg (by omega)]; omega

theorem ovIndex_at (h : ovIndex l H = some (r, H')) (hI : Inv G S H w) (hr : RelL S l vs.toList) : CallR Tryz.prog 258 vs w fun v w' => ∃ S', Step G S H w S' H' w' ∧ Rel S' r v := by
  unfold ovIndex at h
  split at h
  · rename_i s c
    split at h
    · rename_i hc
      have hc : c < 256 := by simpa using hc
      simp only [Option.some.injEq, Prod.mk.injEq] at h
      obtain ⟨hres, hheap⟩ := h
      subst hheap
      obtain ⟨v1, l1, hv, h1, h2⟩ := hr.cons_inv
      obtain ⟨v2, l2, rfl, h3, h4⟩ := h2.cons_inv
      obtain rfl := h4.nil_inv
      have hvs : vs = #[v1, v2] := by apply Array.ext'; simpa using hv
      subst hvs
      rw [Rel] at h1
      rw [Rel] at h3
      obtain ⟨rfl, hs⟩ := h1
      subst h3
      have hx := @run_callFunc_extern Tryz.prog 258 _ Extern.BytealgIndexByte.indexByte Tryz.func258 (by kernel_rfl) (by kernel_rfl) (by kernel_rfl) (by kernel_rfl) #[.string (mkStr s), .int .u8 (.ofNat c)] w
      rw [run_indexByteString] at hx
      refine callR_value hx ⟨S, Step.refl hI, ?_⟩
      rw [← hres]
      simp only [Rel]
      rw [indexOf_eq c hc s 0 hs]
      have e1 : (mkStr s).data.toList = s.map UInt8.ofNat := by simp [mkStr]
      have e2 : (Int.ofNat c).toNat.toUInt8 = UInt8.ofNat c := rfl
      rw [e1, e2]
      split
      · rename_i e; rw [e]
      · simp
    · cases h
  · cases h
end
end Go.Proofs
