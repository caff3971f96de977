/-
  A REGION THAT DRAWS ITS ORDER: what the machine's own check of it tells.
-/
import Derived.Test.YtckcgijepiejlaaGreatAeSeq
namespace Go.Proofs.YtckcgijepiejlaaGreat.Ae
open Go
set_option linter.unusedVariables false
set_option linter.unusedSimpArgs false
set_option linter.unnecessarySimpa false

def bit (ops : Array Oper) (i k : Nat) : Bool := ((Region.before ops).toList.getD i 0).testBit k

theorem edge_lt {P : Program} {ops : Array Oper} (h : DrawGood P ops) {i : Nat} {o : Oper} (ho : ops[i]? = some o) : ∀ e ∈ o.after, Region.binds .any e = true → e.on < i := by
  intro e he hb
  unfold DrawGood Region.ok at h
  simp only [Bool.and_eq_true] at h
  have h1 := h.1.1.1.1
  rw [Array.all_eq_true_iff_forall_mem] at h1
  have hm : (o, i) ∈ ops.zipIdx := by
    rw [Array.mem_zipIdx_iff_getElem?]; exact ho
  have h2 := h1 _ hm
  simp only [Bool.and_eq_true, Array.all_eq_true_iff_forall_mem] at h2
  have h3 := h2.1 e he
  cases hg : e.ground <;> simp [hg, Region.binds] at h3 hb <;> first | exact h3 | exact (absurd hb (by decide))

theorem guard_edge {P : Program} {ops : Array Oper} (h : DrawGood P ops) {i : Nat} {o : Oper} (ho : ops[i]? = some o) {j : Nat} {want : Bool} (hg : o.guard = some (j, want)) :
    (∃ e ∈ o.after, e.on = j ∧ Region.binds .any e = true) ∧ ∃ d, (ops[j]?).bind (·.dst) = some d := by
  unfold DrawGood Region.ok at h
  simp only [Bool.and_eq_true] at h
  have h1 := h.1.1.1.1
  rw [Array.all_eq_true_iff_forall_mem] at h1
  have hm : (o, i) ∈ ops.zipIdx := by
    rw [Array.mem_zipIdx_iff_getElem?]; exact ho
  have h2 := h1 _ hm
  simp only [Bool.and_eq_true, Array.all_eq_true_iff_forall_mem, hg] at h2
  refine ⟨?_, Option.isSome_iff_exists.1 h2.2.2⟩
  obtain ⟨e, he, h3⟩ := Array.any_eq_true'.1 h2.2.1
  simp only [Bool.and_eq_true, beq_iff_eq] at h3
  exact ⟨e, he, h3.1, h3.2⟩

/-! ### what waits for what -/
def befF (acc : Array Nat) (o : Oper) : Nat := o.after.foldl (fun s e => if Region.binds .any e then s ||| 2 ^ e.on ||| acc.getD e.on 0 else s) 0
def befL (l : List Oper) : Array Nat := l.foldl (fun acc o => acc.push (befF acc o)) #[]

theorem before_eq (ops : Array Oper) : Region.before ops = befL ops.toList := by
  unfold Region.before befL
  rw [← Array.foldl_toList]; rfl

theorem befL_append (l : List Oper) (o : Oper) : befL (l ++ [o]) = (befL l).push (befF (befL l) o) := by simp [befL]
theorem befL_sizeG : ∀ (l : List Oper) (acc : Array Nat), (l.foldl (fun acc o => acc.push (befF acc o)) acc).size = acc.size + l.length
  | [], acc => rfl
  | o :: l, acc => by rw [List.foldl_cons, befL_sizeG l]; simp; omega
theorem befL_size (l : List Oper) : (befL l).size = l.length := by
  unfold befL; rw [befL_sizeG]; simp
theorem befL_keep : ∀ (r : List Oper) (acc : Array Nat) (i : Nat), i < acc.size → (r.foldl (fun acc o => acc.push (befF acc o)) acc).getD i 0 = acc.getD i 0
  | [], acc, i, h => rfl
  | o :: r, acc, i, h => by
    rw [List.foldl_cons, befL_keep r _ i (by simp; omega)]
    simp [Array.getElem?_push, Nat.ne_of_lt h]
theorem befL_prefix (l r : List Oper) (i : Nat) (hi : i < l.length) : (befL (l ++ r)).getD i 0 = (befL l).getD i 0 := by
  unfold befL
  rw [List.foldl_append]
  exact befL_keep r _ i (by have := befL_size l; unfold befL at this; omega)

theorem befF_bit (acc : Array Nat) (o : Oper) (k : Nat) : (befF acc o).testBit k = true ↔ ∃ e ∈ o.after, Region.binds .any e = true ∧ (e.on = k ∨ (acc.getD e.on 0).testBit k = true) := by
  unfold befF
  rw [← Array.foldl_toList]
  have : ∀ (l : List Edge) (s : Nat), (l.foldl (fun s e => if Region.binds .any e then s ||| 2 ^ e.on ||| acc.getD e.on 0 else s) s).testBit k = true ↔
      s.testBit k = true ∨ ∃ e ∈ l, Region.binds .any e = true ∧ (e.on = k ∨ (acc.getD e.on 0).testBit k = true) := by
    intro l
    induction l with
    | nil => intro s; simp
    | cons e l ih =>
      intro s
      rw [List.foldl_cons, ih]
      by_cases hb : Region.binds .any e = true
      · rw [if_pos hb]
        simp only [Nat.testBit_or, Nat.testBit_two_pow, Bool.or_eq_true, decide_eq_true_eq, List.mem_cons, exists_eq_or_imp, hb, true_and]
        constructor
        · rintro (((h | h) | h) | h)
          · exact .inl h
          · exact .inr (.inl (.inl h))
          · exact .inr (.inl (.inr h))
          · exact .inr (.inr h)
        · rintro (h | (h | h) | h)
          · exact .inl (.inl (.inl h))
          · exact .inl (.inl (.inr h))
          · exact .inl (.inr h)
          · exact .inr h
      · rw [if_neg hb]
        have hb : Region.binds .any e = false := by simpa using hb
        simp only [List.mem_cons, exists_eq_or_imp, hb, Bool.false_eq_true, false_and, false_or]
  rw [this]
  simp

theorem before_bit {P : Program} {ops : Array Oper} (h : DrawGood P ops) {i : Nat} {o : Oper} (ho : ops[i]? = some o) (k : Nat) :
    bit ops i k = true ↔ ∃ e ∈ o.after, Region.binds .any e = true ∧ (e.on = k ∨ bit ops e.on k = true) := by
  have hlt : i < ops.size := (Array.getElem?_eq_some_iff.1 ho).1
  have conv : ∀ j, (Region.before ops).toList.getD j 0 = (Region.before ops).getD j 0 := fun j => by simp
  have hsplit : ops.toList = (ops.toList.take i ++ [o]) ++ ops.toList.drop (i + 1) := by
    have h1 : ops.toList[i]? = some o := by simpa using ho
    have h2 := List.take_append_drop (i + 1) ops.toList
    rw [List.take_add_one, h1] at h2
    exact h2.symm
  have hl : (ops.toList.take i).length = i := by simp; omega
  have hi : (Region.before ops).getD i 0 = befF (befL (ops.toList.take i)) o := by
    have hp := befL_prefix (ops.toList.take i ++ [o]) (ops.toList.drop (i + 1)) i (by simp; omega)
    rw [← hsplit] at hp
    rw [before_eq, hp, befL_append]
    have := befL_size (ops.toList.take i)
    rw [hl] at this
    rw [Array.getD_eq_getD_getElem?, Array.getElem?_push, if_pos this.symm]
    rfl
  unfold bit
  rw [conv, hi, befF_bit]
  have hpre : ∀ e ∈ o.after, Region.binds .any e = true → (befL (ops.toList.take i)).getD e.on 0 = (Region.before ops).getD e.on 0 := by
    intro e he hb
    rw [before_eq]
    conv => rhs; rw [hsplit, List.append_assoc]
    rw [befL_prefix _ _ _ (by rw [hl]; exact edge_lt h ho e he hb)]
  constructor
  · rintro ⟨e, he, hb, hk⟩
    refine ⟨e, he, hb, hk.imp_right fun hk => ?_⟩
    rw [conv, ← hpre e he hb]; exact hk
  · rintro ⟨e, he, hb, hk⟩
    refine ⟨e, he, hb, hk.imp_right fun hk => ?_⟩
    rw [hpre e he hb, ← conv]; exact hk

theorem bit_some {ops : Array Oper} {i k : Nat} (h : bit ops i k = true) : ∃ o, ops[i]? = some o := by
  cases ho : ops[i]? with
  | some o => exact ⟨o, rfl⟩
  | none =>
    have hge : ops.size ≤ i := by simpa using ho
    have : (Region.before ops).toList.getD i 0 = 0 := by
      have hs : (Region.before ops).size = ops.size := by rw [before_eq, befL_size]; simp
      simp [hs, hge]
    unfold bit at h
    rw [this] at h
    simp at h

theorem bit_lt {P : Program} {ops : Array Oper} (h : DrawGood P ops) : ∀ (i k : Nat), bit ops i k = true → k < i := by
  intro i
  induction i using Nat.strongRecOn with
  | _ i ih =>
    intro k hk
    obtain ⟨o, ho⟩ := bit_some hk
    obtain ⟨e, he, hb, h1⟩ := (before_bit h ho k).1 hk
    have := edge_lt h ho e he hb
    rcases h1 with h1 | h1
    · omega
    · have := ih e.on this k h1; omega

/-- a set that holds, with an operation, what it waits for -/
def Closed (ops : Array Oper) (S : Nat → Bool) : Prop := ∀ i o, ops[i]? = some o → S i = true → ∀ e ∈ o.after, Region.binds .any e = true → S e.on = true

theorem Closed.bits {P : Program} {ops : Array Oper} (h : DrawGood P ops) {S : Nat → Bool} (hS : Closed ops S) : ∀ (i k : Nat) (o : Oper), ops[i]? = some o → (∀ e ∈ o.after, Region.binds .any e = true → S e.on = true) → bit ops i k = true → S k = true := by
  intro i
  induction i using Nat.strongRecOn with
  | _ i ih =>
    intro k o ho hall hk
    obtain ⟨e, he, hb, h1⟩ := (before_bit h ho k).1 hk
    have hlt := edge_lt h ho e he hb
    have hon := hall e he hb
    rcases h1 with h1 | h1
    · rw [← h1]; exact hon
    · obtain ⟨o', ho'⟩ := bit_some h1
      exact ih e.on hlt k o' ho' (hS e.on o' ho' hon) h1

theorem Closed.bit {P : Program} {ops : Array Oper} (h : DrawGood P ops) {S : Nat → Bool} (hS : Closed ops S) {i k : Nat} (hi : S i = true) (hk : bit ops i k = true) : S k = true := by
  obtain ⟨o, ho⟩ := bit_some hk
  exact hS.bits h i k o ho (hS i o ho hi) hk

/-! ### who writes a slot -/
def tnames (o : Oper) : List Tmp := o.dst.toList ++ o.op.operands.toList.filterMap fun | .tmp t => some t | _ => none

theorem writers_mem (m : Nat) : ∀ (l : List (Oper × Nat)) (w : Array (List (Tmp × Nat))), w.size = m → ∀ d i,
    ((d, i) ∈ w.getD (d % m) [] ∨ ∃ o, (o, i) ∈ l ∧ o.dst = some d) → 0 < m →
    (d, i) ∈ (l.foldl (init := w) fun w (x : Oper × Nat) => match x.1.dst with | some d => w.modify (d % m) ((d, x.2) :: ·) | none => w).getD (d % m) []
  | [], w, _, d, i, h, _ => by
    rcases h with h | ⟨o, h, _⟩
    · exact h
    · cases h
  | x :: l, w, hw, d, i, h, hm => by
    rw [List.foldl_cons]
    refine writers_mem m l _ (by cases x.1.dst <;> simp [hw]) d i ?_ hm
    rcases h with h | ⟨o, h, ho⟩
    · left
      cases hx : x.1.dst with
      | none => exact h
      | some d' =>
        simp only
        by_cases e : d' % m = d % m
        · have hlt : d % m < w.size := by rw [hw]; exact Nat.mod_lt _ hm
          simp only [Array.getD_eq_getD_getElem?, Array.getElem?_eq_getElem hlt, Option.getD_some] at h
          simp [Array.getElem?_modify, e, Array.getElem?_eq_getElem hlt, h]
        · simp only [Array.getD_eq_getD_getElem?] at h ⊢
          rw [Array.getElem?_modify, if_neg e]
          exact h
    · rcases List.mem_cons.1 h with e | h
      · left
        subst e
        simp only [ho]
        have hlt : d % m < w.size := by rw [hw]; exact Nat.mod_lt _ hm
        simp [Array.getElem?_modify, Array.getElem?_eq_getElem hlt]
      · exact .inr ⟨o, h, ho⟩

theorem tmp_order {P : Program} {ops : Array Oper} (h : DrawGood P ops) {i j : Nat} {o o' : Oper} (ho : ops[j]? = some o) {t : Tmp} (ht : t ∈ tnames o) (ho' : ops[i]? = some o') (hd : o'.dst = some t) (hij : i ≠ j) :
    bit ops (max i j) (min i j) = true := by
  have hlt : j < ops.size := (Array.getElem?_eq_some_iff.1 ho).1
  unfold DrawGood Region.ok at h
  simp only [Bool.and_eq_true] at h
  have h1 := h.1.1.1.2
  unfold Region.temporariesOk at h1
  simp only [List.all_eq_true] at h1
  have h2 := h1 (o, j) (by rw [List.mem_zipIdx_iff_getElem?]; simpa using ho) t ht (t, i) (writers_mem ops.size ops.toList.zipIdx (Array.replicate ops.size []) (by simp) t i (.inr ⟨o', by rw [List.mem_zipIdx_iff_getElem?]; simpa using ho', hd⟩) (by omega))
  simp only [Bool.or_eq_true, bne_self_eq_false, Bool.false_eq_true, false_or, beq_iff_eq] at h2
  rcases h2 with h2 | h2
  · exact absurd h2 hij
  · unfold bit
    rw [List.getD_eq_getElem?_getD]
    simpa [Array.getD_eq_getD_getElem?] using h2

end Go.Proofs.YtckcgijepiejlaaGreat.Ae
