/- What an operation gives depends on the slots that it reads alone. -/
import Derived.Test.YtldclhmpgjcimaaGreatDoorTapA
namespace Go.Abs
open Go
section
variable {G : Glob} {E F : Env} {H : Heap}

theorem mem_tmpsOf {t : Nat} : ∀ {l : List Operand}, Operand.tmp t ∈ l → t ∈ tmpsOf l
  | [], h => by simp at h
  | x :: r, h => by
    rcases List.mem_cons.1 h with h | h
    · subst h; simp [tmpsOf]
    · have := mem_tmpsOf h
      cases x <;> simp [tmpsOf, this]
def Same (E F : Env) (l : List Operand) : Prop := ∀ x ∈ l, ∀ G, opnd G E x = opnd G F x
theorem same_of {l : List Operand} (h : ∀ t ∈ tmpsOf l, E.get t = F.get t) : Same E F l := by
  intro x hx G
  cases x with
  | tmp t => exact h t (mem_tmpsOf hx)
  | _ => rfl
theorem opnds_same : ∀ {l : List Operand}, Same E F l → opnds G E l = opnds G F l
  | [], _ => rfl
  | x :: r, h => by
    simp only [opnds]
    rw [h x (by simp), opnds_same (l := r) fun y hy => h y (by simp [hy])]
theorem partsA_same : ∀ {l : List (Nat × Operand)}, Same E F (l.map (·.2)) → partsA G E l = partsA G F l
  | [], _ => rfl
  | (i, x) :: r, h => by
    simp only [partsA]
    rw [h x (by simp), partsA_same (l := r) fun y hy => h y (by simp only [List.map_cons, List.mem_cons]; exact .inr hy)]

theorem same_one {x : Operand} {l : List Operand} (h : Same E F l) (hx : x ∈ l) : opnd G E x = opnd G F x := h x hx G
theorem optOpnd_same {x : Option Operand} {l : List Operand} (h : Same E F l) (hx : ∀ y, x = some y → y ∈ l) : optOpnd G E x = optOpnd G F x := by
  cases x with
  | none => rfl
  | some y => simp only [optOpnd]; rw [h y (hx y rfl)]
theorem same_sub {l r : List Operand} (h : Same E F l) (hs : ∀ x ∈ r, x ∈ l) : Same E F r := fun x hx => h x (hs x hx)

theorem pureOp_same {o : Oper} (h : Same E F o.op.operands.toList) : pureOp G E o = pureOp G F o := by
  obtain ⟨dst, op, type, pos, after, guard⟩ := o
  simp only at h
  cases op
  case build t parts =>
    simp only [pureOp]
    rw [partsA_same (l := parts.toList) (by simpa [Op.operands] using h)]
  case slice t x l hh m =>
    simp only [pureOp]
    rw [same_one h (x := x) (by simp [Op.operands]), optOpnd_same h (x := l) (by rintro y rfl; simp [Op.operands]), optOpnd_same h (x := hh) (by rintro y rfl; simp [Op.operands]), optOpnd_same h (x := m) (by rintro y rfl; simp [Op.operands])]
  case makeFunc fn a b =>
    simp only [pureOp]
    rw [opnds_same (l := a.toList) (same_sub h (by intro x hx; simp [Op.operands]; exact .inl (by simpa using hx))), opnds_same (l := b.toList) (same_sub h (by intro x hx; simp [Op.operands]; exact .inr (by simpa using hx)))]
  case call c =>
    obtain ⟨callee, args, ats⟩ := c
    cases callee with
    | builtin b =>
      simp only [pureOp]
      rw [opnds_same (l := args.toList) (by simpa [Op.operands, Call.operands] using h)]
    | _ => rfl
  all_goals first
    | rfl
    | (simp only [pureOp]; simp only [Same, Op.operands, List.mem_cons, List.not_mem_nil, or_false, forall_eq_or_imp, forall_eq] at h; simp only [h])

theorem readOp_same {o : Oper} (h : Same E F o.op.operands.toList) : readOp G E H o = readOp G F H o := by
  obtain ⟨dst, op, type, pos, after, guard⟩ := o
  simp only at h
  cases op
  case call c =>
    obtain ⟨callee, args, ats⟩ := c
    cases callee with
    | builtin b =>
      have := opnds_same (G := G) (l := args.toList) (by simpa [Op.operands, Call.operands] using h)
      cases b <;> first | rfl | (simp only [readOp]; rw [this])
    | _ => rfl
  all_goals first
    | rfl
    | (simp only [readOp]; simp only [Same, Op.operands, List.mem_cons, List.not_mem_nil, or_false, forall_eq_or_imp, forall_eq] at h; simp only [h])

theorem newOp_same {o : Oper} (h : Same E F o.op.operands.toList) : newOp G E o = newOp G F o := by
  obtain ⟨dst, op, type, pos, after, guard⟩ := o
  simp only at h
  cases op
  case buildSlice t n parts =>
    simp only [newOp]
    rw [partsA_same (l := parts.toList) (by simpa [Op.operands] using h)]
  case makeMap t r =>
    cases r with
    | none => rfl
    | some x => simp only [newOp]; rw [same_one h (x := x) (by simp [Op.operands])]
  all_goals first
    | rfl
    | (simp only [newOp]; simp only [Same, Op.operands, List.mem_cons, List.not_mem_nil, or_false, forall_eq_or_imp, forall_eq] at h; simp only [h])

theorem actOp_same {o : Oper} (h : Same E F o.op.operands.toList) : actOp G E H o = actOp G F H o := by
  obtain ⟨dst, op, type, pos, after, guard⟩ := o
  simp only at h
  cases op
  case call c =>
    obtain ⟨callee, args, ats⟩ := c
    cases callee with
    | builtin b =>
      simp only [actOp]
      rw [opnds_same (l := args.toList) (by simpa [Op.operands, Call.operands] using h)]
    | value f =>
      simp only [actOp]
      rw [opnds_same (l := args.toList) (same_sub h (by intro x hx; simp [Op.operands, Call.operands]; exact .inr (by simpa using hx))), same_one h (x := f) (by simp [Op.operands, Call.operands])]
    | _ => rfl
  case next it s =>
    cases s with
    | false => simp only [actOp]; rw [same_one h (x := it) (by simp [Op.operands])]
    | true => rfl
  all_goals first
    | rfl
    | (simp only [actOp]; simp only [Same, Op.operands, List.mem_cons, List.not_mem_nil, or_false, forall_eq_or_imp, forall_eq] at h; simp only [h])

theorem wantedA_same {ops : Array Oper} {o : Oper} (h : ∀ t ∈ usesA ops o, E.get t = F.get t) : wantedA ops E o = wantedA ops F o := by
  unfold wantedA
  unfold usesA at h
  split
  · rfl
  · rename_i j want hg
    rw [hg] at h
    simp only at h
    cases hd : (ops[j]?).bind (·.dst) with
    | none => rfl
    | some d =>
      rw [hd] at h
      simp only
      rw [h d (by simp)]
theorem same_uses {ops : Array Oper} {o : Oper} (h : ∀ t ∈ usesA ops o, E.get t = F.get t) : Same E F o.op.operands.toList :=
  same_of fun t ht => h t (by unfold usesA; exact List.mem_append_right _ ht)
end
end Go.Abs
