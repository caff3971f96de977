/-
  CODE, BODIES, CALLS: what the evaluator tells of a call is what the machine does.
-/
import Derived.Test.YtckcgijepiejlaaGreatAeLoop
namespace Go.Proofs.YtckcgijepiejlaaGreat.Ae
open Go
set_option linter.unusedVariables false
set_option linter.unusedSimpArgs false
set_option linter.unnecessarySimpa false
variable {P : Program}

theorem exitTo_plain {id : Nat} {x : Item} {k : List Item} (hx : x.plain = true) : exitTo id (x :: k) = exitTo id k := by
  cases x <;> first | rfl | cases hx
theorem ArrR.pass {m : Machine} {b : Frame} {x : Item} {k : List Item} {cs : List Frame} {e : Exit} {a : Act} {w : World} (hx : x.plain = true) (he : e ≠ .normal) (h : ArrR P m b (x :: k) cs e a w) : ArrR P m b k cs e a w := by
  cases e with
  | normal => exact absurd rfl he
  | exit id => obtain ⟨k', h1, h2⟩ := h; exact ⟨k', by rw [h1, exitTo_plain hx], h2⟩
  | _ => exact h

theorem To.pass {z : Sz} {E : Env} {s : St} {w : World} {b : Frame} {x : Item} {k : List Item} {cs : List Frame} {m : Machine} {o : Out} {s' : St} (hx : x.plain = true) (ho : o ≠ .normal) (t : To P z E s w b (x :: k) cs m o s') : To P z E s w b k cs m o s' := by
  obtain ⟨a', cs', w', E', e, h1, h2, h3⟩ := t
  refine ⟨a', cs', w', E', e, .pass hx (fun he => ?_) h1, h2, h3⟩
  subst he
  cases o <;> simp [OutOk] at h2 <;> first | exact absurd rfl ho | (obtain ⟨_, h, _⟩ := h2; cases h)

theorem seqK_some {r : CO} {k : St → CO} {o : Out} {s' : St} (h : seqK r k = some (o, s')) : (∃ s1, r = some (.normal, s1) ∧ k s1 = some (o, s')) ∨ (r = some (o, s') ∧ o ≠ .normal) := by
  unfold seqK at h
  split at h
  · rename_i o1 s1
    split at h
    · exact .inl ⟨s1, rfl, h⟩
    · rename_i hne
      cases h
      exact .inr ⟨rfl, fun e => hne e⟩
  · cases h

theorem regK_some {r : Option SR} {o : Out} {s' : St} (h : regK r = some (o, s')) : ∃ x, r = some x ∧ srOut x = (o, s') := by
  unfold regK at h
  split at h <;> cases h <;> exact ⟨_, rfl, rfl⟩

theorem iterA_sound {z : Sz} {c : Code} {f : St → CO} (hf : ∀ {s : St} {o : Out} {s' : St}, f s = some (o, s') → ∀ {E : Env} {a : Act} {w : World}, RepS P z E s a w → ∀ {b : Frame} {k : List Item} {cs : List Frame}, Rcv E s.rcv b cs → To P z E s w b k cs (lone (b.atR a (.code c :: k)) cs w) o s') :
    ∀ (m : Nat) {s : St} {o : Out} {s' : St}, iterA f m s = some (o, s') → ∀ {E : Env} {a : Act} {w : World}, RepS P z E s a w → ∀ {b : Frame} {k : List Item} {cs : List Frame}, Rcv E s.rcv b cs →
      To P z E s w b k cs (lone (b.atR a (.code c :: .inLoop c :: k)) cs w) o s'
  | 0, s, o, s', h, E, a, w, hs, b, k, cs, hrc => by cases h
  | m + 1, s, o, s', h, E, a, w, hs, b, k, cs, hrc => by
    have e : iterA f (m + 1) s = seqK (f s) (iterA f m) := rfl
    rw [e] at h
    rcases seqK_some h with ⟨s1, h1, h2⟩ | ⟨h1, h2⟩
    · obtain ⟨a1, cs1, w1, E1, e1, q1, q2, q3, q4, q5⟩ := hf h1 hs (k := .inLoop c :: k) hrc
      simp only [OutOk] at q2; subst q2
      exact .of_steps (Steps.trans q1 (.one stepR_inLoop)) (.andThen q4 q5 (iterA_sound hf m h2 q3 (hrc.to q4.fr.le q5)))
    · exact .pass rfl h2 (hf h1 hs (k := .inLoop c :: k) hrc)

/-! ### a loop over a function -/
section loops
variable {b : Frame} {a : Act} {k : List Item} {cs : List Frame} {w : World}
theorem stepR_rangeFunc_value {g : Operand} {ps : Array Tmp} {assign body : Code} {l : Nat} {mark : List Deferred} {w₁ w₁' w₂ : World} {d : Deferred} {v : Value}
    (he : (Instr.enterLoop b.fn a.tmps ps assign body b.roundOf).run P w = .ok (l, mark) w₁)
    (hres : (resolve a.eval (rangeCall g l) 0).run P w₁ = .ok d w₁') (hinv : (invoke d.target d.args).run P w₁' = .ok (.value v) w₂) :
    step P (lone (b.atR a (.code (.rangeFunc g ps assign body) :: k)) cs w) =
      .next (lone ((b.atR { a with defers := mark ++ a.defers } (.inRangeFunc l :: k)).finish v) cs w₂) :=
  step_lone_go (by
    have hev := Frame.eval_atR b { a with defers := mark ++ a.defers } (.inRangeFunc l :: k)
    simp only [Frame.atR] at hev
    have hres' : Sem.run P (resolve ({ tmps := a.tmps, defers := mark ++ a.defers } : Act).eval { callee := .value g, args := #[.const (.func (.yield l) #[] #[])], argTypes := #[] } 0) w₁ = .ok d w₁' := hres
    simp [stepG, stepG.exec, Frame.atR, Sem.runT_eq, he, GStep.bare_after, stepG.apply, hev, Sem.run_bind, hres', hinv, Result.andThen])
theorem stepR_rangeFunc_round {g : Operand} {ps : Array Tmp} {assign body : Code} {l : Nat} {mark : List Deferred} {w₁ w₁' w₂ : World} {d : Deferred} {l' : Nat} {fn : FuncId} {tmps : Array Value} {as bd : Code}
    (he : (Instr.enterLoop b.fn a.tmps ps assign body b.roundOf).run P w = .ok (l, mark) w₁)
    (hres : (resolve a.eval (rangeCall g l) 0).run P w₁ = .ok d w₁') (hinv : (invoke d.target d.args).run P w₁' = .ok (.round l' fn tmps as bd) w₂) :
    step P (lone (b.atR a (.code (.rangeFunc g ps assign body) :: k)) cs w) =
      .next (lone (Frame.round l' fn tmps as bd .normal) (b.atR { a with defers := mark ++ a.defers } (.inRangeFunc l :: k) :: cs) w₂) :=
  step_lone_go (by
    have hev := Frame.eval_atR b { a with defers := mark ++ a.defers } (.inRangeFunc l :: k)
    simp only [Frame.atR] at hev
    have hres' : Sem.run P (resolve ({ tmps := a.tmps, defers := mark ++ a.defers } : Act).eval { callee := .value g, args := #[.const (.func (.yield l) #[] #[])], argTypes := #[] } 0) w₁ = .ok d w₁' := hres
    simp [stepG, stepG.exec, Frame.atR, Sem.runT_eq, he, GStep.bare_after, stepG.apply, hev, Sem.run_bind, hres', hinv, Result.andThen])
end loops

theorem loopEnd_some {L : Nat} {s : St} {h : AH} {r : Option Row} {o : Out} {s' : St} (hh : loopEnd L s h r = some (o, s')) :
    ∃ r' la, r = some r' ∧ r'.lp = some la ∧ r'.ver = 0 ∧ s' = ⟨s.tmps, s.defs, loopPut h L la .over, s.rcv⟩ ∧ ((la.st = .ready ∧ o = .normal) ∨ (la.st = .ret ∧ o = .ret) ∨ ∃ id, la.st = .exit id ∧ o = .exit id) := by
  unfold loopEnd at hh
  split at hh
  · rename_i r'
    split at hh
    · rename_i la hla
      cases hv : Nat.beq r'.ver 0 with
      | false => rw [hv, cond_false] at hh; cases hh
      | true =>
        rw [hv, cond_true] at hh
        have hv := nbeq_true hv
        split at hh
        · rename_i hst; cases hh; exact ⟨r', la, rfl, hla, hv, rfl, .inl ⟨hst, rfl⟩⟩
        · rename_i hst; cases hh; exact ⟨r', la, rfl, hla, hv, rfl, .inr (.inl ⟨hst, rfl⟩)⟩
        · rename_i id hst; cases hh; exact ⟨r', la, rfl, hla, hv, rfl, .inr (.inr ⟨id, hst, rfl⟩)⟩
        · cases hh
    · cases hh
  · cases hh

theorem loopA_sound {call : CallF} (hcall : CallSound P call) {z : Sz} {f : Operand} {ps : Array Tmp} {x y : Code} (hg : CodeGood P z.n (.rangeFunc f ps x y)) {s : St} {o : Out} {s' : St} (h : loopA call z.n f ps.toList x y s = some (o, s'))
    {E : Env} {a : Act} {w : World} (hs : RepS P z E s a w) {b : Frame} {k : List Item} {cs : List Frame} (hrc : Rcv E s.rcv b cs) :
    To P z E s w b k cs (lone (b.atR a (.code (.rangeFunc f ps x y) :: k)) cs w) o s' := by
  have hrn : s.rcv ≠ .rnd := by
    intro hr
    unfold loopA at h
    rw [hr] at h; cases h
  have hro := hrc.none hrn
  have h : loopGo call z.n (evo s.tmps f) ps.toList x y s = some (o, s') := by
    unfold loopA at h
    split at h
    · cases h
    · exact h
  unfold loopGo at h
  split at h
  case h_2 => cases h
  rename_i g first cap hf
  simp only [forceN_eq, forceTr_eq] at h
  have hfv := repV_evo hs.tm f
  rw [hf] at hfv
  simp only [RepV] at hfv
  obtain ⟨f', p, q, hfv, hfn, hp, hq⟩ := hfv
  have hfn' : f' = .func g := hfn
  subst hfn'
  -- the record is laid
  have he := run_enterLoop_outer (P := P) (w := w) b.fn a.tmps ps x y
  rw [← hro] at he
  let B := w.heap.size
  let lr : Loop := { state := .ready, pending := none, fn := b.fn, tmps := a.tmps, params := ps, assign := x, body := y, defers := w.heap.size }
  let w1 : World := (w.alloc (.deferred (some []))).alloc (.loop lr)
  have hw1 : w1.heap = (w.heap.push (.deferred (some []))).push (.loop lr) := rfl
  let la : LoopA := ⟨s.tmps, z.n, ps.toList, x, y, .ready⟩
  let h1 : AH := ⟨s.h.next + 1, s.h.tr.set s.h.next ⟨0, [], some la⟩⟩
  let e1 : Ent := ⟨0, w.heap.size + 1, 0, 0⟩
  let E1 := E.set s.h.next e1
  have hnone : E.ids s.h.next = none := hs.fresh _ (Nat.le_refl _)
  have hle1 : E.le E1 := Env.le_set fun e0 h0 => by rw [hnone] at h0; cases h0
  have hlrec : w1.heap[w.heap.size + 1]? = some (.loop lr) := by
    rw [hw1, Array.getElem?_push, if_pos (by simp)]
  have hblk : w1.heap[w.heap.size]? = some (.deferred (some [])) := by
    rw [hw1, Array.getElem?_push, if_neg (by simp), Array.getElem?_push, if_pos rfl]
  have hold : ∀ i, i < w.heap.size → w1.heap[i]? = w.heap[i]? := by
    intro i hi
    rw [hw1, Array.getElem?_push, if_neg (by simp; omega), Array.getElem?_push, if_neg (by omega)]
  have hsz1 : w1.heap.size = w.heap.size + 2 := by rw [hw1]; simp
  obtain ⟨r1, r2⟩ := hs.heap.set (w' := w1) (N := fun i => i = s.h.next) (r := ⟨0, [], some la⟩) (e := e1) (fun e0 h0 => by rw [hnone] at h0; cases h0) rfl
    ⟨fun h => (by cases h), fun la' h' => by
      cases h'
      exact ⟨⟨lr, hlrec, hs.size, hs.tm.mono hle1, rfl, rfl, rfl, rfl, rfl⟩, fun t ht => hg.1 t (by simpa [la] using ht), hg.2.1, hg.2.2⟩⟩
    (.inl (Nat.le_succ _)) (fun _ => rfl) (fun h0 => absurd hnone h0) rfl rfl rfl (by rw [hsz1]; omega) (fun i hi _ => hold i hi)
  have hget : h1.get = gset s.h.get s.h.next ⟨0, [], some la⟩ := funext fun m => by
    show (s.h.tr.set s.h.next ⟨0, [], some la⟩).get m = _
    rw [Tr.get_set]; rfl
  have hE1 : E1.ids s.h.next = some e1 := by simp [E1, Env.set]
  have hfresh1 : Fresh E1 h1.next := fun id hid => by
    have : id ≠ s.h.next := by simp only [h1] at hid; omega
    have := hs.fresh id (by simp only [h1] at hid; omega)
    simpa [E1, Env.set, *] using this
  have p1 : Post P (fun i => s.h.next ≤ i) E s.h w E1 h1 w1 := by
    refine ⟨?_, ?_, ?_, hfresh1⟩
    · rw [hget]; exact r1
    · rw [hget]; exact r2.mono fun i hi => by omega
    · simp only [h1]; omega
  -- the frame behind it
  let a1 : Act := { a with defers := { target := .collected w.heap.size, args := #[] } :: a.defers }
  have hs1 : RepS P z E1 ⟨s.tmps, s.defs, h1, s.rcv⟩ a1 w1 := by
    refine ⟨hs.tm.mono hle1, hs.size, .col (hs.defs.mono hle1), p1.rep, hfresh1, ?_, by rw [hsz1]; have := hs.lo; omega⟩
    have hc := hs.col.fr p1.fr
    refine ⟨?_, ?_⟩
    · rw [colBlocks_col, List.nodup_cons]
      refine ⟨fun hm => ?_, hc.nodup⟩
      have := (Array.getElem?_eq_some_iff.1 (hs.col.ok _ hm).2.1).1
      omega
    · intro b' hb'
      rw [colBlocks_col] at hb'
      rcases List.mem_cons.1 hb' with rfl | hb'
      · refine ⟨hs.lo, hblk, ?_⟩
        intro id r e hgr her heq
        rcases p1.fr.own id r e hgr her with h4 | ⟨i0, r0, e0, h4, h5, h6⟩
        · rw [hget] at hgr
          by_cases hid : id = s.h.next
          · subst hid
            rw [hE1] at her; cases her
            simp only [e1] at heq; omega
          · have hgr' : s.h.get id = some r := by simpa [gset, hid] using hgr
            have her' : E.ids id = some e := by simpa [E1, Env.set, hid] using her
            have := hs.heap.lt hgr' her'
            omega
        · have := hs.heap.lt h4 h5; omega
      · exact hc.ok b' hb'
  -- the call
  have hyl : RepL E1 (first ++ .fn (.yield s.h.next) [] [] :: cap) (p ++ #[Value.func (.yield (w.heap.size + 1)) #[] #[]] ++ q).toList := by
    have hy : RepV E1 (.fn (.yield s.h.next) [] []) (Value.func (.yield (w.heap.size + 1)) #[] #[]) := by
      simp only [RepV]
      exact ⟨_, #[], #[], rfl, ⟨_, rfl, e1, hE1, fun _ => rfl⟩, RepL.nil, RepL.nil⟩
    have := ((hp.mono hle1 _ _).append (RepL.cons hy RepL.nil)).append (hq.mono hle1 _ _)
    simpa using this
  have hres : (resolve a.eval (rangeCall f (w.heap.size + 1)) 0).run P w1 = .ok { target := .fn (.func g) q, args := p ++ #[Value.func (.yield (w.heap.size + 1)) #[] #[]] } w1 := by
    have hev : (#[Operand.const (.func (.yield (w.heap.size + 1)) #[] #[])].map a.eval) = #[Value.func (.yield (w.heap.size + 1)) #[] #[]] := by simp [Act.eval]
    unfold resolve rangeCall
    simp only [hev, hfv, Sem.run_bind, Sem.run_pure, Result.andThen_ok, Deferred.ofValue]
  have hinv : (invoke (.fn (.func g) q) (p ++ #[Value.func (.yield (w.heap.size + 1)) #[] #[]])).run P w1 = (invoke (.fn (.func g) #[]) (p ++ #[Value.func (.yield (w.heap.size + 1)) #[] #[]] ++ q)).run P w1 := by simp [invoke]
  cases hr : call (.func g) (first ++ .fn (.yield s.h.next) [] [] :: cap) h1 with
  | none => rw [hr] at h; cases h
  | some r =>
    rw [hr] at h
    have hback : ∃ e w2, CRok P (fun i => h1.next ≤ i) E1 h1 w1 r e w2 ∧ Steps P (lone (b.atR a (.code (.rangeFunc f ps x y) :: k)) cs w) (After (b.atR a1 (.inRangeFunc (w.heap.size + 1) :: k)) cs e w2) := by
      rcases hcall _ _ h1 r hr E1 w1 _ (.func g) rfl hyl p1.rep hfresh1 with ⟨g', gs, q1, q2⟩ | ⟨v, w', q1, q2⟩ | ⟨l', fn, tmps, as, bd, q1, q2⟩
      · obtain ⟨e, w2, fr, hR, hcomes, _, hleave⟩ := q2 (b.atR a1 (.inRangeFunc (w.heap.size + 1) :: k) :: cs)
        have hst := stepR_rangeFunc (k := k) (cs := cs) he hres (hinv.trans q1)
        refine ⟨e, w2, hR, .head hst ?_⟩
        cases e with
        | returned v => exact Steps.trans hcomes (.one (step_leave_returned hleave))
        | panicked ch => exact Steps.trans hcomes (.one (step_leave_panicked hleave))
        | outgrown => cases r <;> (obtain ⟨u, E', h0, _⟩ := hR; cases h0)
      · exact ⟨.returned v, w', q2, .one (stepR_rangeFunc_value (k := k) (cs := cs) he hres (hinv.trans q1))⟩
      · obtain ⟨e, w2, hR, hsteps⟩ := q2 (b.atR a1 (.inRangeFunc (w.heap.size + 1) :: k)) cs
        exact ⟨e, w2, hR, .head (stepR_rangeFunc_round (k := k) (cs := cs) he hres (hinv.trans q1)) hsteps⟩
    obtain ⟨e, w2, hR, hsteps⟩ := hback
    cases r with
    | pan v h2 =>
      obtain ⟨u, E2, rfl, hv, p2⟩ := hR
      simp only [loopK] at h
      cases h
      have p2' : Post P (fun i => s.h.next ≤ i) E1 h1 w1 E2 h2 w2 := ⟨p2.rep, p2.fr.mono fun i hi => by simp only [h1] at hi; omega, p2.next, p2.fresh⟩
      refine ⟨a1, cs, w2, E2, .panic [{ v := u, recovered := false }], ⟨.inRangeFunc (w.heap.size + 1) :: k, ?_⟩, ⟨u, rfl, hv⟩, hs1.next p2 (hs1.tm.mono p2.fr.le) rfl rfl, p1.trans p2', .refl _ _⟩
      rw [← Frame.raise_atR]; exact hsteps
    | val v h2 =>
      obtain ⟨u, E2, rfl, hv, p2⟩ := hR
      simp only [loopK] at h
      have p2' : Post P (fun i => s.h.next ≤ i) E1 h1 w1 E2 h2 w2 := ⟨p2.rep, p2.fr.mono fun i hi => by simp only [h1] at hi; omega, p2.next, p2.fresh⟩
      obtain ⟨rL, la2, hgL, hlp, hver, rfl, hst⟩ := loopEnd_some h
      obtain ⟨e2, he2, hrel⟩ := p2.fr.le.ids s.h.next e1 hE1
      obtain ⟨hev2, hla2⟩ := loop_row p2.rep hgL hlp hver he2
      have : e2 = e1 := by
        rcases hrel with h0 | h0
        · exact h0
        · simp only [e1] at h0; omega
      subst this
      obtain ⟨rr, hrr, _, _, _, _, _, hls⟩ := hla2.ex
      have hbusy : rr.state ≠ .busy := by
        rcases hst with ⟨h0, _⟩ | ⟨h0, _⟩ | ⟨id, h0, _⟩ <;> rw [h0] at hls <;> simp only [LSok] at hls <;> rw [hls.1] <;> simp
      have hend := run_endLoop (P := P) hrr hbusy
      have p3 : Post P (fun i => s.h.next ≤ i) E2 h2 w2 E2 (loopPut h2 s.h.next la2 .over) (w2.putObj (w.heap.size + 1) (.loop { rr with state := .exhausted })) :=
        loop_put p2.rep p2.fresh hgL hlp hver he2 hrr (state := .exhausted) (pending := rr.pending) (st := .over) trivial
      have hs2 := hs1.next p2 (rcv := s.rcv) (hs1.tm.mono p2.fr.le) rfl rfl
      have hs3 := hs2.next p3 (rcv := s.rcv) (hs2.tm.mono p3.fr.le) rfl rfl
      have hsteps' : Steps P (lone (b.atR a (.code (.rangeFunc f ps x y) :: k)) cs w) (lone (b.atR a1 ((rr.pending.map Item.code).toList ++ k)) cs (w2.putObj (w.heap.size + 1) (.loop { rr with state := .exhausted }))) := by
        refine Steps.trans hsteps (.one ?_)
        show step P (lone ((b.atR a1 (.inRangeFunc (w.heap.size + 1) :: k)).finish u) cs w2) = _
        rw [finish_atR_inRangeFunc]
        exact stepR_endRangeFunc hend
      have pall := (p1.trans p2').trans p3
      rcases hst with ⟨h0, rfl⟩ | ⟨h0, rfl⟩ | ⟨id, h0, rfl⟩
      · rw [h0] at hls; simp only [LSok] at hls
        have hj : (rr.pending.map Item.code).toList = [] := by rw [hls.2]; rfl
        rw [hj] at hsteps'
        exact ⟨a1, cs, _, E2, .normal, hsteps', rfl, hs3, pall, .refl _ _⟩
      · rw [h0] at hls; simp only [LSok] at hls
        have hj : (rr.pending.map Item.code).toList = [Item.code .ret] := by rw [hls.2]; rfl
        rw [hj] at hsteps'
        exact ⟨a1, cs, _, E2, .ret, ⟨k, hsteps'⟩, rfl, hs3, pall, .refl _ _⟩
      · rw [h0] at hls; simp only [LSok] at hls
        have hj : (rr.pending.map Item.code).toList = [Item.code (.exit id)] := by rw [hls.2]; rfl
        rw [hj] at hsteps'
        exact ⟨a1, cs, _, E2, .exit id, ⟨k, rfl, hsteps'⟩, rfl, hs3, pall, .refl _ _⟩

theorem codeA_sound {call : CallF} (hcall : CallSound P call) (hmix : P.follows .mixedOrders = true) {z : Sz} {lf : Nat} : ∀ (c : Code), CodeGood P z.n c → ∀ {s : St} {o : Out} {s' : St}, codeA P call lf z.n c s = some (o, s') →
    ∀ {E : Env} {a : Act} {w : World}, RepS P z E s a w → ∀ {b : Frame} {k : List Item} {cs : List Frame}, Rcv E s.rcv b cs → To P z E s w b k cs (lone (b.atR a (.code c :: k)) cs w) o s'
  | .skip, _, s, o, s', h, E, a, w, hs, b, k, cs, hrc => by
    have e : codeA P call lf z.n .skip s = some (.normal, s) := rfl
    rw [e] at h; cases h
    exact ⟨a, cs, w, E, .normal, .one stepR_skip, rfl, hs, .refl hs.heap hs.fresh, .refl _ _⟩
  | .label l, _, s, o, s', h, E, a, w, hs, b, k, cs, hrc => by
    have e : codeA P call lf z.n (.label l) s = some (.normal, s) := rfl
    rw [e] at h; cases h
    exact ⟨a, cs, w, E, .normal, .one stepR_label, rfl, hs, .refl hs.heap hs.fresh, .refl _ _⟩
  | .ret, _, s, o, s', h, E, a, w, hs, b, k, cs, hrc => by
    have e : codeA P call lf z.n .ret s = some (.ret, s) := rfl
    rw [e] at h; cases h
    exact ⟨a, cs, w, E, .ret, ⟨k, .refl P _⟩, rfl, hs, .refl hs.heap hs.fresh, .refl _ _⟩
  | .exit id, _, s, o, s', h, E, a, w, hs, b, k, cs, hrc => by
    have e : codeA P call lf z.n (.exit id) s = some (.exit id, s) := rfl
    rw [e] at h; cases h
    exact ⟨a, cs, w, E, .exit id, ⟨k, rfl, .refl P _⟩, rfl, hs, .refl hs.heap hs.fresh, .refl _ _⟩
  | .goto l, _, s, o, s', h, E, a, w, hs, b, k, cs, hrc => by cases h
  | .scope _, _, s, o, s', h, E, a, w, hs, b, k, cs, hrc => by cases h
  | .refuse _, _, s, o, s', h, E, a, w, hs, b, k, cs, hrc => by cases h
  | .rangeFunc f ps x y, hg, s, o, s', h, E, a, w, hs, b, k, cs, hrc => loopA_sound hcall hg h hs hrc
  | .region id ops d, hg, s, o, s', h, E, a, w, hs, b, k, cs, hrc => by
    have e : codeA P call lf z.n (.region id ops d) s = regK (regionA P call ops d s) := rfl
    rw [e] at h
    obtain ⟨x, hx, hxo⟩ := regK_some h
    have h1 : (srOut x).1 = o := by rw [hxo]
    have h2 : (srOut x).2 = s' := by rw [hxo]
    rw [← h1, ← h2]
    unfold regionA at hx
    cases d with
    | false =>
      rw [cond_false] at hx
      refine .of_steps (.one stepR_region) ?_
      have := seqA_sound hcall hg.1 ops.toList 0 (by simp) hx hs (k := k) hrc
      rw [Nat.sub_zero, ← List.range_eq_range'] at this
      exact this
    | true =>
      rw [cond_true] at hx
      exact draw_sound hcall hmix hg.1 (hg.2 rfl) hx hs hrc
  | .seq x y, hg, s, o, s', h, E, a, w, hs, b, k, cs, hrc => by
    have e : codeA P call lf z.n (.seq x y) s = seqK (codeA P call lf z.n x s) (codeA P call lf z.n y) := rfl
    rw [e] at h
    refine .of_steps (.one stepR_seq) ?_
    rcases seqK_some h with ⟨s1, h1, h2⟩ | ⟨h1, h2⟩
    · obtain ⟨a1, cs1, w1, E1, e1, q1, q2, q3, q4, q5⟩ := codeA_sound hcall hmix x hg.1 h1 hs (k := .code y :: k) hrc
      simp only [OutOk] at q2; subst q2
      exact .of_steps q1 (.andThen q4 q5 (codeA_sound hcall hmix y hg.2 h2 q3 (hrc.to q4.fr.le q5)))
    · exact .pass rfl h2 (codeA_sound hcall hmix x hg.1 h1 hs (k := .code y :: k) hrc)
  | .cond c x y, hg, s, o, s', h, E, a, w, hs, b, k, cs, hrc => by
    have e : codeA P call lf z.n (.cond c x y) s = condK (evo s.tmps c) (codeA P call lf z.n x) (codeA P call lf z.n y) s := rfl
    rw [e] at h
    have hc := repV_evo hs.tm c
    cases hv : evo s.tmps c with
    | bool t =>
      rw [hv] at h hc
      simp only [RepV] at hc
      refine .of_steps (.one (stepR_cond hc)) ?_
      cases t with
      | true => exact codeA_sound hcall hmix x hg.1 h hs hrc
      | false => exact codeA_sound hcall hmix y hg.2 h hs hrc
    | _ => rw [hv] at h; cases h
  | .block id c, hg, s, o, s', h, E, a, w, hs, b, k, cs, hrc => by
    have e : codeA P call lf z.n (.block id c) s = blockK id (codeA P call lf z.n c s) := rfl
    rw [e] at h
    refine .of_steps (.one stepR_block) ?_
    unfold blockK at h
    split at h
    · rename_i o1 s1 h1
      obtain ⟨a1, cs1, w1, E1, e1, q1, q2, q3, q4, q5⟩ := codeA_sound hcall hmix c hg h1 hs (k := .inBlock id :: k) hrc
      split at h
      · rename_i i
        simp only [OutOk] at q2; subst q2
        obtain ⟨k', q1, q6⟩ := q1
        by_cases hi : i = id
        · rw [hi, nbeq, decide_eq_true rfl, cond_true] at h
          cases h
          exact ⟨a1, cs1, w1, E1, .normal, Steps.trans q6 (.one (stepR_exit (by rw [q1]; simp [exitTo, hi]))), rfl, q3, q4, q5⟩
        · rw [nbeq_false hi, cond_false] at h
          cases h
          have hne : (id == i) = false := by simp; exact fun h => hi h.symm
          exact ⟨a1, cs1, w1, E1, .exit i, ⟨k', by rw [q1]; simp [exitTo, hne], q6⟩, rfl, q3, q4, q5⟩
      · rename_i hne
        cases h
        cases o with
        | normal =>
          simp only [OutOk] at q2; subst q2
          exact ⟨a1, cs1, w1, E1, .normal, Steps.trans q1 (.one stepR_inBlock), rfl, q3, q4, q5⟩
        | exit i => exact absurd rfl (hne i)
        | goto l => simp only [OutOk] at q2; subst q2; exact q1.elim
        | ret =>
          simp only [OutOk] at q2; subst q2
          exact ⟨a1, cs1, w1, E1, .ret, q1, rfl, q3, q4, q5⟩
        | panic v =>
          obtain ⟨u, rfl, hu⟩ := q2
          exact ⟨a1, cs1, w1, E1, .panic [{ v := u, recovered := false }], q1, ⟨u, rfl, hu⟩, q3, q4, q5⟩
    · cases h
  | .loop c, hg, s, o, s', h, E, a, w, hs, b, k, cs, hrc => by
    have e : codeA P call lf z.n (.loop c) s = iterA (codeA P call lf z.n c) lf s := rfl
    rw [e] at h
    refine .of_steps (.one stepR_loop) ?_
    exact iterA_sound (fun {s} {o} {s'} h {E a w} hs {b k cs} hrc => codeA_sound hcall hmix c hg h hs hrc) lf h hs hrc



end Go.Proofs.YtckcgijepiejlaaGreat.Ae
