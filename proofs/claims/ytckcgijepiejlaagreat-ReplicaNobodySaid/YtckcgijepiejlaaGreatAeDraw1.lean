/-
  A REGION THAT DRAWS ITS ORDER: values told alike are alike; the rows that a set of operations has made; and rows beside.
-/
import Derived.Test.YtckcgijepiejlaaGreatAeDraw0
namespace Go.Proofs.YtckcgijepiejlaaGreat.Ae
open Go
set_option linter.unusedVariables false
set_option linter.unusedSimpArgs false
set_option linter.unnecessarySimpa false
variable {P : Program}

/-! ### told alike -/
theorem eqI_to {a b : Int} (h : eqI a b = true) : a = b := by
  cases a <;> cases b <;> simp only [eqI] at h <;> first | (rw [nbeq_true h]) | cases h
theorem eqS_to : ∀ {a b : List UInt8}, eqS a b = true → a = b
  | [], [], _ => rfl
  | [], _ :: _, h => by cases h
  | _ :: _, [], h => by cases h
  | x :: a, y :: b, h => by
    simp only [eqS, Bool.and_eq_true] at h
    have h1 := nbeq_true h.1
    rw [eqS_to h.2, UInt8.toNat_inj.1 h1]
theorem eqO_eq : ∀ {a b : Option Nat}, eqO a b = true → a = b
  | none, none, _ => rfl
  | none, some _, h => by cases h
  | some _, none, h => by cases h
  | some _, some _, h => by rw [nbeq_true h]
theorem kcode_to {j k : IntKind} (h : Nat.beq (kcode j) (kcode k) = true) : j = k := by
  cases j <;> cases k <;> first | rfl | (revert h; decide)
theorem eqC_eq {x y : AV} (h : eqC x y = true) : x = y := by
  cases x <;> simp only [eqC] at h <;> first | (cases h; done) | skip
  all_goals (cases y <;> simp only at h <;> first | (cases h; done) | skip)
  case bool.bool => simp at h; rw [h]
  case int.int =>
    simp only [Bool.and_eq_true] at h
    rw [kcode_to h.1, eqI_to h.2]
  case str.str => rw [eqS_to h]
  case ptr.ptr =>
    simp only [Bool.and_eq_true] at h
    rw [nbeq_true h.1, nbeq_true h.2.1, nbeq_true h.2.2]
  case gptr.gptr => rw [nbeq_true h]
  case sl.sl =>
    simp only [Bool.and_eq_true] at h
    rw [nbeq_true h.1, nbeq_true h.2.1, nbeq_true h.2.2.1, nbeq_true h.2.2.2.1, nbeq_true h.2.2.2.2.1, eqO_eq h.2.2.2.2.2]
  all_goals rfl
theorem eqL_eq {α : Type} {f : α → α → Bool} (hf : ∀ a b, f a b = true → a = b) : ∀ {x y : List α}, eqL f x y = true → x = y
  | [], [], _ => rfl
  | [], _ :: _, h => by cases h
  | _ :: _, [], h => by cases h
  | a :: x, b :: y, h => by
    simp only [eqL, Bool.and_eq_true] at h
    rw [hf a b h.1, eqL_eq hf h.2]
theorem eqV_eq {x y : AV} (h : eqV x y = true) : x = y := by
  cases x <;> simp only [eqV] at h <;> first | exact eqC_eq h | skip
  all_goals (cases y <;> simp only at h <;> first | (cases h; done) | skip)
  case agg.agg => rw [eqL_eq (fun _ _ => eqC_eq) h]
  case fsl.fsl =>
    simp only [Bool.and_eq_true] at h
    rw [nbeq_true h.1, nbeq_true h.2.1, eqO_eq h.2.2.1, eqL_eq (fun _ _ => eqC_eq) h.2.2.2]
  case fptr.fptr => rw [eqL_eq (fun _ _ => eqC_eq) h]
  case iface.iface =>
    simp only [Bool.and_eq_true] at h
    rw [nbeq_true h.1, eqC_eq h.2]
theorem sameO_eq {u : Option AV} {v : AV} (h : sameO u v = true) : u = some v := by
  cases u with
  | none => cases h
  | some u => rw [eqV_eq h]

theorem opReadA_mute {h h' : AH} {tm : Tm} {o : Op} (hm : memRead o = false) : opReadA P h tm o = opReadA P h' tm o := by
  cases o <;> first | rfl | (cases hm; done)

/-! ### the rows made -/
def madeAt (S : Nat → Bool) : List (Nat × Nat × Row) → Nat → Option Row
  | [], _ => none
  | p :: l, id => match madeAt S l id with
    | some r => some r
    | none => if S p.1 = true ∧ p.2.1 = id then some p.2.2 else none

/-- the rows of a heap, and those made by the operations of a set -/
noncomputable def rowsOf (S : Nat → Bool) (made : List (Nat × Nat × Row)) (h : AH) (id : Nat) : Option Row :=
  match h.get id with
  | some r => some r
  | none => madeAt S made id

/-- one row each -/
def Uniq (made : List (Nat × Nat × Row)) : Prop := ∀ p ∈ made, ∀ q ∈ made, p.2.1 = q.2.1 → p = q

theorem madeAt_some {S : Nat → Bool} : ∀ {made : List (Nat × Nat × Row)} {id : Nat} {r : Row}, madeAt S made id = some r → ∃ p ∈ made, S p.1 = true ∧ p.2.1 = id ∧ p.2.2 = r
  | [], _, _, h => by cases h
  | p :: l, id, r, h => by
    simp only [madeAt] at h
    split at h
    · rename_i r' h'
      cases h
      obtain ⟨q, hq, h1⟩ := madeAt_some h'
      exact ⟨q, .tail _ hq, h1⟩
    · split at h
      · rename_i h1
        cases h
        exact ⟨p, .head _, h1.1, h1.2, rfl⟩
      · cases h
theorem madeAt_isSome {S : Nat → Bool} : ∀ {made : List (Nat × Nat × Row)} {p : Nat × Nat × Row}, p ∈ made → S p.1 = true → ∃ r, madeAt S made p.2.1 = some r
  | [], _, h, _ => by cases h
  | q :: l, p, h, hS => by
    simp only [madeAt]
    cases hm : madeAt S l p.2.1 with
    | some r => exact ⟨r, rfl⟩
    | none =>
      rcases List.mem_cons.1 h with rfl | h
      · exact ⟨p.2.2, by simp [hS]⟩
      · obtain ⟨r, hr⟩ := madeAt_isSome h hS
        rw [hm] at hr; cases hr
theorem madeAt_iff {S : Nat → Bool} {made : List (Nat × Nat × Row)} (hu : Uniq made) {id : Nat} {r : Row} : madeAt S made id = some r ↔ ∃ p ∈ made, S p.1 = true ∧ p.2.1 = id ∧ p.2.2 = r := by
  refine ⟨madeAt_some, ?_⟩
  rintro ⟨p, hp, hS, rfl, rfl⟩
  obtain ⟨r, hr⟩ := madeAt_isSome hp hS
  obtain ⟨q, hq, _, h1, h2⟩ := madeAt_some hr
  rw [hr, ← h2, hu q hq p hp h1]

@[simp] theorem addRow_next (h : AH) (id : Nat) (r : Row) : (addRow h id r).next = h.next := by
  unfold addRow; split <;> simp
theorem addRow_get (h : AH) (id : Nat) (r : Row) (m : Nat) : (addRow h id r).get m = match h.get m with | some r => some r | none => if id = m then some r else none := by
  unfold addRow
  cases hg : h.get id with
  | none =>
    simp only [AH.get_put]
    by_cases e : m = id
    · subst e; simp [hg]
    · rw [if_neg e, if_neg (Ne.symm e)]
      cases h.get m <;> rfl
  | some r' =>
    simp only
    cases hm : h.get m with
    | some r'' => rfl
    | none =>
      have : id ≠ m := fun e => by subst e; rw [hg] at hm; cases hm
      simp [this]
theorem addMade_next (mask : Nat) : ∀ (made : List (Nat × Nat × Row)) (h : AH), (addMade mask made h).next = h.next
  | [], h => rfl
  | p :: l, h => by
    simp only [addMade]
    cases Nat.testBit mask p.1 <;> simp [addMade_next mask l h]
theorem addMade_get (mask : Nat) : ∀ (made : List (Nat × Nat × Row)) (h : AH) (id : Nat), (addMade mask made h).get id = rowsOf (fun k => Nat.testBit mask k) made h id
  | [], h, id => by
    simp only [addMade, rowsOf, madeAt]
    cases h.get id <;> rfl
  | p :: l, h, id => by
    have ih := addMade_get mask l h
    simp only [addMade]
    cases ht : Nat.testBit mask p.1 with
    | false =>
      rw [cond_false, ih]
      simp only [rowsOf, madeAt, ht]
      cases h.get id with
      | some r => rfl
      | none =>
        cases hm : madeAt (fun k => Nat.testBit mask k) l id with
        | some r => simp [hm]
        | none => simp [hm]
    | true =>
      rw [cond_true, addRow_get, ih]
      simp only [rowsOf, madeAt, ht]
      cases h.get id with
      | some r => rfl
      | none =>
        cases hm : madeAt (fun k => Nat.testBit mask k) l id with
        | some r => simp [hm]
        | none => simp [hm]

/-- of the rows made, a part; of a heap, the whole -/
theorem rowsOf_sub {S S' : Nat → Bool} {made made' : List (Nat × Nat × Row)} {h : AH} (hu : Uniq made') (hm : ∀ p ∈ made, S p.1 = true → p ∈ made' ∧ S' p.1 = true) {id : Nat} {r : Row} (hr : rowsOf S made h id = some r) : rowsOf S' made' h id = some r := by
  unfold rowsOf at hr ⊢
  cases hg : h.get id with
  | some r' => rw [hg] at hr; exact hr
  | none =>
    rw [hg] at hr
    simp only at hr ⊢
    obtain ⟨p, hp, h1, h2, h3⟩ := madeAt_some hr
    obtain ⟨h4, h5⟩ := hm p hp h1
    exact (madeAt_iff hu).2 ⟨p, h4, h5, h2, h3⟩

/-! ### rows beside -/
/-- A step that knows g of the rows, where there are g and others, leaves the others. -/
theorem RepH.beside {N : Nat → Prop} {E E' : Env} {w w' : World} {G g g' G' : Nat → Option Row} (hG : RepH P E G w) (hsub : ∀ id r, g id = some r → G id = some r) (hg' : RepH P E' g' w') (f : Fr N E g w E' g' w')
    (hG' : ∀ id, G' id = match g' id with | some r => some r | none => G id) : RepH P E' G' w' ∧ Fr N E G w E' G' w' := by
  -- a row beside: as it was
  have side : ∀ id r, g' id = none → G id = some r → ∃ e, E.ids id = some e ∧ E'.ids id = some e ∧ e.ver = r.ver ∧ RowIs P E w e r ∧ E.fro e.blk = none ∧ (∀ i s e0, g i = some s → E.ids i = some e0 → e0.blk ≠ e.blk) := by
    intro id r h1 h2
    obtain ⟨e, he, hv, hrow, hf⟩ := hG.rows id r h2
    have hgn : g id = none := by
      cases hgi : g id with
      | none => rfl
      | some r' => exact absurd h1 (f.kept id (by rw [hgi]; simp))
    refine ⟨e, he, f.same id e he hgn, hv, hrow, hf, ?_⟩
    intro i s e0 hi he0 hb
    have := hG.inj i id s r e0 e (hsub i s hi) h2 he0 he hb
    subst this
    rw [hgn] at hi; cases hi
  have blt : ∀ {e : Ent} {r : Row}, RowIs P E w e r → e.blk < w.heap.size := by
    intro e r hrow
    exact hrow.lt
  have apart : ∀ i j ri rj ei ej, g' i = some ri → g' j = none → G j = some rj → E'.ids i = some ei → E'.ids j = some ej → ei.blk ≠ ej.blk := by
    intro i j ri rj ei ej h1 h2 h3 h4 h5 hb
    obtain ⟨e, he, he', hv, hrow, hf, hdis⟩ := side j rj h2 h3
    rw [he'] at h5; cases h5
    rcases f.own i ri ei h1 h4 with h6 | ⟨i0, r0, e0, h6, h7, h8⟩
    · have := blt hrow; omega
    · exact hdis i0 r0 e0 h6 h7 (h8.trans hb)
  refine ⟨⟨?_, ?_, hg'.fro⟩, ⟨f.le, f.fro, f.new, ?_, ?_, ?_, f.os, f.tape, f.output, f.size, ?_, ?_⟩⟩
  · intro id r hr
    rw [hG'] at hr
    cases hgi : g' id with
    | some r' =>
      rw [hgi] at hr; cases hr
      exact hg'.rows id r hgi
    | none =>
      rw [hgi] at hr
      simp only at hr
      obtain ⟨e, he, he', hv, hrow, hf, hdis⟩ := side id r hgi hr
      refine ⟨e, he', hv, ?_, by rw [f.fro _ (blt hrow)]; exact hf⟩
      exact (hrow.block (f.block e.blk (blt hrow) hdis)).mono f.le
  · intro i j ri rj ei ej hi hj hei hej hb
    rw [hG'] at hi hj
    cases hgi : g' i with
    | some ri' =>
      cases hgj : g' j with
      | some rj' => exact hg'.inj i j ri' rj' ei ej hgi hgj hei hej hb
      | none =>
        rw [hgj] at hj
        exact absurd hb (apart i j ri' rj ei ej hgi hgj hj hei hej)
    | none =>
      rw [hgi] at hi
      cases hgj : g' j with
      | some rj' => exact absurd hb.symm (apart j i rj' ri ej ei hgj hgi hi hej hei)
      | none =>
        rw [hgj] at hj
        simp only at hi hj
        obtain ⟨e1, he1, he1', _⟩ := side i ri hgi hi
        obtain ⟨e2, he2, he2', _⟩ := side j rj hgj hj
        rw [he1'] at hei; cases hei
        rw [he2'] at hej; cases hej
        exact hG.inj i j ri rj _ _ hi hj he1 he2 hb
  · intro id e he hg
    refine f.same id e he ?_
    cases hgi : g id with
    | none => rfl
    | some r => rw [hsub id r hgi] at hg; cases hg
  · intro id hg
    rw [hG']
    cases g' id with
    | some r => simp
    | none => exact hg
  · intro id hg hn
    rw [hG'] at hn
    cases hgi : g' id with
    | none => rw [hgi] at hn; exact absurd hg hn
    | some r =>
      refine f.gnew id ?_ (by rw [hgi]; simp)
      cases hgo : g id with
      | none => rfl
      | some r' => rw [hsub id r' hgo] at hg; cases hg
  · intro b hb hn
    exact f.block b hb fun id r e h1 h2 => hn id r e (hsub id r h1) h2
  · intro id r e hr he
    rw [hG'] at hr
    cases hgi : g' id with
    | some r' =>
      rcases f.own id r' e hgi he with h | ⟨i0, r0, e0, h1, h2, h3⟩
      · exact .inl h
      · exact .inr ⟨i0, r0, e0, hsub i0 r0 h1, h2, h3⟩
    | none =>
      rw [hgi] at hr
      simp only at hr
      obtain ⟨e1, he1, he1', _⟩ := side id r hgi hr
      rw [he1'] at he; cases he
      exact .inr ⟨id, r, _, hr, he1, rfl⟩

end Go.Proofs.YtckcgijepiejlaaGreat.Ae
