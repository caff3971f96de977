/-
  THE RECORD OF A LOOP OVER A FUNCTION: the machine's and the evaluator's go together.
-/
import Derived.Test.YtckcgijepiejlaaGreatAeDraw
namespace Go.Proofs.YtckcgijepiejlaaGreat.Ae
open Go
set_option linter.unusedVariables false
set_option linter.unusedSimpArgs false
set_option linter.unnecessarySimpa false
variable {P : Program}

/-- where the record lies -/
theorem loop_row {E : Env} {h : AH} {w : World} (hH : RepH P E h.get w) {L : Nat} {r : Row} {la : LoopA} (hg : h.get L = some r) (hl : r.lp = some la) (hv : r.ver = 0) {e : Ent} (he : E.ids L = some e) : e.ver = 0 ∧ LoopAt P E w e la := by
  obtain ⟨e1, he1, hev, hri, _⟩ := hH.rows L r hg
  rw [he] at he1; cases he1
  exact ⟨hev.trans hv, hri.loop la hl⟩

theorem loopAt_some {b : Bool} {h : AH} {L : Nat} {la : LoopA} (hl : loopAt b h L = some la) : ∃ r, h.get L = some r ∧ r.lp = some la ∧ r.ver = 0 ∧ la.st = if b = true then .ready else .busy := by
  unfold loopAt at hl
  split at hl
  · rename_i r hg
    split at hl
    · rename_i la' hlp
      cases hv : Nat.beq r.ver 0 with
      | false => rw [hv, cond_false] at hl; cases hl
      | true =>
        rw [hv, cond_true] at hl
        have hv := nbeq_true hv
        split at hl
        · rename_i hst
          cases b with
          | true => rw [cond_true] at hl; cases hl; exact ⟨r, hg, hlp, hv, by rw [hst]; rfl⟩
          | false => rw [cond_false] at hl; cases hl
        · rename_i hst
          cases b with
          | true => rw [cond_true] at hl; cases hl
          | false => rw [cond_false] at hl; cases hl; exact ⟨r, hg, hlp, hv, by rw [hst]; rfl⟩
        · cases hl
    · cases hl
  · cases hl

/-- the record turns -/
theorem loop_put {E : Env} {h : AH} {w : World} (hH : RepH P E h.get w) (hF : Fresh E h.next) {N : Nat → Prop} {L : Nat} {r : Row} {la : LoopA} (hg : h.get L = some r) (hl : r.lp = some la) (hv : r.ver = 0) {e : Ent} (he : E.ids L = some e) {rr : Loop} (hb : w.heap[e.blk]? = some (.loop rr))
    {st : LS} {state : LoopState} {pending : Option Code} (hst : LSok st { rr with state := state, pending := pending }) :
    Post P N E h w E (loopPut h L la st) (w.putObj e.blk (.loop { rr with state := state, pending := pending })) := by
  obtain ⟨hev, ⟨⟨r1, h1, h2, h3, h4, h5, h6, h7⟩, hps, hasg, hbody⟩⟩ := loop_row hH hg hl hv he
  rw [hb] at h1; cases h1
  have hlt := (Array.getElem?_eq_some_iff.1 hb).1
  obtain ⟨q1, q2⟩ := hH.keep (w' := w.putObj e.blk (.loop { rr with state := state, pending := pending })) (N := N) (r' := ⟨0, [], some ⟨la.tm, la.n, la.ps, la.asg, la.body, st⟩⟩) hg he hv.symm
    ⟨fun h => (by cases h), fun la' h' => by
      cases h'
      exact ⟨⟨{ rr with state := state, pending := pending }, World.putObj_heap_same hlt, h2, h3, h4, h5, h6, hst⟩, hps, hasg, hbody⟩⟩ rfl rfl rfl (by simp) (fun b hb => World.putObj_heap_other hb)
  have hn : (loopPut h L la st).next = h.next := by unfold loopPut; simp
  refine ⟨?_, ?_, by rw [hn]; exact Nat.le_refl _, by rw [hn]; exact hF⟩
  · unfold loopPut; rw [gset_put]; exact q1
  · unfold loopPut; rw [gset_put]; exact q2

theorem setPs_sound {E : Env} : ∀ {ps : List Nat} {args : List AV} {tm tm' : Tm}, setPs ps args tm = some tm' → ∀ {vs : List Value} {a : Array Value}, RepL E args vs → RepT E tm a → (∀ t ∈ ps, t < a.size) →
    vs.length = ps.length ∧ RepT E tm' ((ps.zip vs).foldl (fun tmps (x : Nat × Value) => tmps.setIfInBounds x.1 x.2) a) ∧ ((ps.zip vs).foldl (fun tmps (x : Nat × Value) => tmps.setIfInBounds x.1 x.2) a).size = a.size
  | [], [], tm, tm', h, vs, a, hl, ht, hp => by
    cases h
    have := hl.nil_inv; subst this
    exact ⟨rfl, ht, rfl⟩
  | [], _ :: _, _, _, h, _, _, _, _, _ => by cases h
  | _ :: _, [], _, _, h, _, _, _, _, _ => by cases h
  | p :: ps, x :: args, tm, tm', h, vs, a, hl, ht, hp => by
    simp only [setPs, forceTr_eq] at h
    obtain ⟨v, r, rfl, h1, h2⟩ := hl.uncons
    have hlt := hp p (.head _)
    obtain ⟨q1, q2, q3⟩ := setPs_sound h h2 (ht.put hlt h1) (fun t ht' => by simpa using hp t (.tail _ ht'))
    refine ⟨by simp [q1], q2, ?_⟩
    simp only [List.zip_cons_cons, List.foldl_cons]
    rw [q3]; simp

theorem setPs_array {ps : Array Nat} {vs a : Array Value} : (ps.zip vs).foldl (fun tmps (x : Nat × Value) => tmps.setIfInBounds x.1 x.2) a = (ps.toList.zip vs.toList).foldl (fun tmps (x : Nat × Value) => tmps.setIfInBounds x.1 x.2) a := by
  rw [← Array.foldl_toList, Array.toList_zip]

end Go.Proofs.YtckcgijepiejlaaGreat.Ae
