/-
  BODIES, CALLS: what the evaluator tells of a call is what the machine does.
-/
import Derived.Test.YtckcgijepiejlaaGreatAeFun
namespace Go.Proofs.YtckcgijepiejlaaGreat.Ae
open Go
set_option linter.unusedVariables false
set_option linter.unusedSimpArgs false
set_option linter.unnecessarySimpa false
attribute [local irreducible] Tr.get Tr.set
variable {P : Program}

/-! ### what a function tells -/
def resOf (a : Array Value) : ResultVar → Sem Value
  | .tmp t => pure (a.getD t undef)
  | .cell x t => do loadVar t (← asAddr (a.getD x undef))

theorem loadAt_asAddr {t : TypeId} {v u : Value} {w w' : World} (h : (Instr.loadAt t v).run P w = .ok u w') : (do loadVar t (← asAddr v) : Sem Value).run P w = .ok u w' := by
  have st : ∀ m : String, ¬ (do loadVar t (← (stuck m : Sem Addr)) : Sem Value).run P w = .ok u w' := by
    intro m hm
    simp [stuck] at hm
  unfold Instr.loadAt at h
  cases v with
  | pointer p =>
    cases p with
    | some x => exact h
    | none => exact absurd h (st _)
  | _ => exact absurd h (st _)

theorem resultsA_sound {E : Env} {h : AH} {w : World} (hH : RepH P E h.get w) {tm : Tm} {a : Array Value} (ht : RepT E tm a) : ∀ {rs : List ResultVar} {l : List AV}, resultsA P h tm rs = some l →
    ∃ vs, (rs.mapM (resOf a)).run P w = .ok vs w ∧ RepL E l vs
  | [], l, hr => by cases hr; exact ⟨[], by simp, RepL.nil⟩
  | .tmp t :: rs, l, hr => by
    simp only [resultsA] at hr
    split at hr
    · rename_i l' h1
      cases hr
      obtain ⟨vs, q1, q2⟩ := resultsA_sound hH ht h1
      refine ⟨a.getD t undef :: vs, ?_, RepL.cons (ht t) q2⟩
      rw [List.mapM_cons]
      simp only [resOf, Sem.run_bind, Sem.run_pure, Result.andThen_ok, q1]
    · cases hr
  | .cell x t :: rs, l, hr => by
    simp only [resultsA] at hr
    split at hr
    · rename_i v hv
      split at hr
      · rename_i l' h1
        cases hr
        obtain ⟨vs, q1, q2⟩ := resultsA_sound hH ht h1
        obtain ⟨u, q3, q4⟩ := loadA_sound hH (ht x) hv
        have q3 : (resOf a (.cell x t)).run P w = .ok u w := loadAt_asAddr q3
        refine ⟨u :: vs, ?_, RepL.cons q4 q2⟩
        rw [List.mapM_cons]
        simp only [Sem.run_bind, Sem.run_pure, Result.andThen_ok, q1, q3]
      · cases hr
    · cases hr

theorem results_sound {fn : Func} {E : Env} {h : AH} {w : World} (hH : RepH P E h.get w) {tm : Tm} {a : Array Value} (ht : RepT E tm a) {l : List AV} (hr : resultsA P h tm fn.results.toList = some l) :
    ∃ u, (results fn a).run P w = .ok u w ∧ RepV E (tupA l) u := by
  obtain ⟨vs, h1, h2⟩ := resultsA_sound hH ht hr
  have hrun : (fn.results.mapM (resOf a)).run P w = .ok vs.toArray w := by
    have e : fn.results = fn.results.toList.toArray := by simp
    rw [e, List.mapM_toArray]
    simp [h1]
  have hres : results fn a = (do let vs ← fn.results.mapM (resOf a); pure (if h : vs.size = 1 then vs[0] else .tuple vs)) := rfl
  rw [hres, Sem.run_bind, hrun]
  refine ⟨if hh : vs.toArray.size = 1 then vs.toArray[0] else .tuple vs.toArray, by simp only [Result.andThen_ok, Sem.run_pure], ?_⟩
  · match l, vs, h2 with
    | [], vs, h2 =>
      have := h2.nil_inv; subst this
      simp only [tupA, RepV]
      exact ⟨#[], by simp, RepL.nil⟩
    | [x], vs, h2 =>
      obtain ⟨v, r, rfl, h3, h4⟩ := h2.uncons
      have := h4.nil_inv; subst this
      simpa [tupA] using h3
    | x :: y :: l, vs, h2 =>
      have hl := h2.length
      have : ¬ vs.toArray.size = 1 := by simp at hl ⊢; omega
      rw [dif_neg this]
      simp only [tupA, RepV]
      exact ⟨_, rfl, h2⟩

/-! ### calls -/
/-- the functions that the evaluator looks at are the program's -/
def FOk (P : Program) (F : Nat → Option Func) : Prop :=
  ∀ f fn, F f = some fn → P.funcs[f]? = some fn ∧ fn.name ≠ "runtime.NumGoroutine" ∧ ∀ c, fn.body = some c → CodeGood P fn.ntmps c

theorem callFunc_run {f : FuncId} {fn : Func} (hf : P.funcs[f]? = some fn) (hn : fn.name ≠ "runtime.NumGoroutine") {c : Code} (hb : fn.body = some c) (args : Array Value) (w : World) : (callFunc f args).run P w = .ok (.enter f args) w := by
  simp [callFunc, hf, hn, hb]

/-- the state that a call begins in -/
theorem begin_rep {E : Env} {args : List AV} {cargs : Array Value} (hl : RepL E args cargs.toList) {n : Nat} (hn : args.length ≤ n) {h : AH} {w : World} (hH : RepH P E h.get w) (hF : Fresh E h.next) (rcv : Rc) :
    RepS P ⟨n, w.heap.size⟩ E ⟨Tr.ofListFrom 0 args .leaf, [], h, rcv⟩ { tmps := cargs ++ Array.replicate (n - cargs.size) undef, defers := [] } w := by
  have hlen : args.length = cargs.size := by have := hl.length; simpa using this
  refine ⟨?_, ?_, .nil, hH, hF, ⟨by simp [colBlocks], by simp [colBlocks]⟩, Nat.le_refl _⟩
  · intro t
    unfold Tm.val
    rw [Tr.get_ofListFrom]
    by_cases ht : t < args.length
    · rw [if_pos ⟨Nat.zero_le _, by omega⟩, Nat.sub_zero, List.getElem?_eq_getElem ht]
      obtain ⟨v, h1, h2⟩ := hl.get t _ (List.getElem?_eq_getElem ht)
      have hc : t < cargs.size := by omega
      have : (cargs ++ Array.replicate (n - cargs.size) undef).getD t undef = v := by
        have h3 : cargs[t]? = some v := by simpa using h1
        rw [Array.getD_eq_getD_getElem?, Array.getElem?_append_left hc, h3]; rfl
      simp only at this ⊢
      rw [this]
      exact h2
    · rw [if_neg (by omega)]
      have : (cargs ++ Array.replicate (n - cargs.size) undef).getD t undef = undef := by
        rw [Array.getD_eq_getD_getElem?, Array.getElem?_append_right (by omega)]
        by_cases h2 : t - cargs.size < n - cargs.size
        · simp [h2]
        · simp [h2]
      simp only at this ⊢
      rw [this, Tr.get_leaf]
      exact repV_undef E
  · simp; omega

theorem bodyA_some {call : CallF} {lf n : Nat} {c : Code} {args : List AV} {h : AH} {rcv : Rc} {r : Out × St} (hr : bodyA P call lf n c args h rcv = some r) :
    args.length ≤ n ∧ codeA P call lf n c ⟨Tr.ofListFrom 0 args .leaf, [], h, rcv⟩ = some r := by
  unfold bodyA at hr
  rw [nble] at hr
  by_cases hn : args.length ≤ n
  · simp only [hn, decide_true, cond_true, forceTr_eq] at hr
    exact ⟨hn, hr⟩
  · simp only [hn, decide_false, cond_false] at hr; cases hr

/-- the mode that a function leaves in -/
def RepM (E : Env) (m : Option AV) (u : FrameMode) : Prop :=
  match m with
  | none => u = .returning
  | some v => ∃ x, u = .panicking [{ v := x, recovered := false }] ∧ RepV E v x

theorem RepM.ne_run {E : Env} {m : Option AV} {u : FrameMode} (h : RepM E m u) : u ≠ .run := by
  cases m with
  | none => rw [h]; simp
  | some v => obtain ⟨x, rfl, _⟩ := h; simp
theorem RepM.mono {E E' : Env} (hE : E.le E') {m : Option AV} {u : FrameMode} (h : RepM E m u) : RepM E' m u := by
  cases m with
  | none => exact h
  | some v => obtain ⟨x, rfl, h⟩ := h; exact ⟨x, rfl, h.mono hE⟩

/-- a mark's block is shut: nobody sees it -/
theorem shut_post {N : Nat → Prop} {E0 E : Env} {h0 h : AH} {w0 w : World} (p : Post P N E0 h0 w0 E h w) {b : Nat} {ds : List Deferred} (hb : colBlocks ({ target := .collected b, args := #[] } :: ds) = b :: colBlocks ds) (hc : ColOk w0.heap.size E h.get ({ target := .collected b, args := #[] } :: ds) w) (o : Obj) :
    Post P N E0 h0 w0 E h (w.putObj b o) ∧ ColOk w0.heap.size E h.get ds (w.putObj b o) := by
  have hnd := hc.nodup
  rw [hb, List.nodup_cons] at hnd
  obtain ⟨h1, h2, h3⟩ := hc.ok b (by rw [hb]; exact .head _)
  have hother : ∀ i, i ≠ b → (w.putObj b o).heap[i]? = w.heap[i]? := fun i hi => World.putObj_heap_other hi
  refine ⟨⟨⟨?_, p.rep.inj, ?_⟩, ⟨p.fr.le, p.fr.fro, p.fr.new, p.fr.same, p.fr.kept, p.fr.gnew, p.fr.os, p.fr.tape, p.fr.output, by simp; exact p.fr.size, ?_, p.fr.own⟩, p.next, p.fresh⟩, hnd.2, ?_⟩
  · intro id r hg
    obtain ⟨e, he, hv, hri, hf⟩ := p.rep.rows id r hg
    exact ⟨e, he, hv, hri.block (hother _ (h3 id r e hg he)), hf⟩
  · intro b' c hb'
    obtain ⟨t, z, hh⟩ := p.rep.fro b' c hb'
    have : b' ≠ b := fun e => by subst e; rw [h2] at hh; cases hh
    exact ⟨t, z, by rw [hother _ this]; exact hh⟩
  · intro b' hlt hno
    rw [hother b' (by omega)]
    exact p.fr.block b' hlt hno
  · intro b' hb'
    obtain ⟨q1, q2, q3⟩ := hc.ok b' (by rw [hb]; exact .tail _ hb')
    have : b' ≠ b := fun e => hnd.1 (e ▸ hb')
    exact ⟨q1, by rw [hother _ this]; exact q2, q3⟩

section calls
variable {F : Nat → Option Func} (hFn : FOk P F) {call : CallF} (hcall : CallSound P call) (hmix : P.follows .mixedOrders = true) {lf : Nat}

/-- a deferred call, as the machine makes it -/
def DeferSound (P : Program) (dcall : FuncId → List AV → Option AV → AH → Option (Option AV × AH)) : Prop :=
  ∀ g args m m' h h', dcall g args m h = some (m', h') → ∀ E w (cargs : Array Value), RepL E args cargs.toList → RepH P E h.get w → Fresh E h.next → ∀ u, RepM E m u →
    (callFunc g cargs).run P w = .ok (.enter g cargs) w ∧ CallsD P g cargs u w fun e u' w' => ∃ v E', e = .returned v ∧ RepM E' m' (settle u') ∧ Post P (fun i => h.next ≤ i) E h w E' h' w'

/-- what is left to do when a function leaves -/
theorem leaveA_steps {N : Nat → Prop} {E0 : Env} {h0 : AH} {w0 : World} : ∀ (es : List Deferred) {ds : List (AV × List AV)} (hd : ds = [] ∨ DeferSound P fun g args m h => deferA P F call lf g args m h) {m m' : Option AV} {h h' : AH}, leaveA P F call lf ds m h = some (m', h') → ∀ {E : Env} {w : World},
    RepD E ds es → ColOk w0.heap.size E h.get es w → Post P N E0 h0 w0 E h w → (∀ i, h.next ≤ i → N i) → ∀ (fr : Frame) (cs : List Frame), RepM E m fr.mode → fr.defers = es →
    ∃ E' w' u', RepM E' m' u' ∧ Post P N E0 h0 w0 E' h' w' ∧ E.le E' ∧ Steps P (lone fr cs w) (lone { fr with mode := u', defers := [] } cs w')
  | [], ds, hd, m, m', h, h', hr, E, w, hD, hc, hp, hN, fr, cs, hm, hf => by
    cases hD
    cases hr
    refine ⟨E, w, fr.mode, hm, hp, .refl, ?_⟩
    have : ({ fr with mode := fr.mode, defers := [] } : Frame) = fr := by rw [← hf]
    rw [this]; exact .refl P _
  | e :: es, ds, hd, m, m', h, h', hr, E, w, hD, hc, hp, hN, fr, cs, hm, hf => by
    cases hD with
    | col t =>
      rename_i b
      obtain ⟨q1, q2⟩ := shut_post hp (colBlocks_col b es) hc (.deferred none)
      have hbl := (hc.ok b (by rw [colBlocks_col]; exact .head _)).2.1
      have hst := step_collected (P := P) (cs := cs) (w := w) hm.ne_run hf rfl (run_takeDeferred hbl)
      obtain ⟨E', w', u', r1, r2, r3, r4⟩ := leaveA_steps es hd hr t q2 q1 hN { fr with defers := es } cs hm rfl
      exact ⟨E', w', u', r1, r2, r3, .head hst r4⟩
    | cons hh t =>
      rename_i d ds'
      obtain ⟨g, x, y, p, q, r, hd1, rfl, hx, hy, hargs⟩ := hh
      unfold leaveA at hr
      rw [hd1] at hr
      simp only at hr
      split at hr
      case h_2 => cases hr
      rename_i m1 h1 hdef
      have hl : RepL E (x ++ d.2 ++ y) (p ++ r ++ q).toList := by
        have := (hx.append hargs).append hy
        simpa using this
      have hd := hd.resolve_left (by simp)
      obtain ⟨hrun, hcd⟩ := hd _ _ _ _ _ _ hdef E w _ hl hp.rep hp.fresh _ hm
      have hst := step_defer (P := P) (cs := cs) (w := w) hm.ne_run hf rfl (f := g) (args := p ++ r ++ q) hrun
      obtain ⟨e', u1, w1, frX, ⟨v, E1, rfl, hM, hp1⟩, hsteps, hk, hgo⟩ := hcd { fr with defers := es } cs rfl
      have hback := step_going_returned (c := { { fr with defers := es } with mode := u1 }) (cs := cs) hk hgo
      have hc1 : ColOk w0.heap.size E h.get es w := hc.es (colBlocks_fn _ _ _ _).symm
      obtain ⟨E', w', u', r1, r2, r3, r4⟩ := leaveA_steps es (.inr hd) hr (t.mono hp1.fr.le) (hc1.fr hp1.fr) (hp.trans ⟨hp1.rep, hp1.fr.mono hN, hp1.next, hp1.fresh⟩) (fun i hi => hN i (Nat.le_trans hp1.next hi)) { { { fr with defers := es } with mode := u1 } with mode := settle u1 } cs hM rfl
      exact ⟨E', w', u', r1, r2, hp1.fr.le.trans r3, .head hst (Steps.trans hsteps (.head hback r4))⟩

include hFn hcall hmix

theorem deferA_sound : DeferSound P fun g args m h => deferA P F call lf g args m h := by
  intro g args m m' h h' hr E w cargs hl hH hF u hm
  simp only at hr
  unfold deferA at hr
  split at hr
  case h_2 => cases hr
  rename_i fn hfn
  obtain ⟨hf, hname, hgood⟩ := hFn g fn hfn
  split at hr
  case h_2 => cases hr
  rename_i c hb
  refine ⟨callFunc_run hf hname hb _ _, ?_⟩
  unfold deferO at hr
  split at hr
  case h_2 => cases hr
  rename_i o s hbody
  obtain ⟨hn, hcode⟩ := bodyA_some hbody
  intro c0 cs hu
  let b : Frame := { (default : Frame) with fn := g, kind := .deferred, roundOf := none }
  have henter : Frame.enter P g cargs .deferred =
      b.atR { tmps := cargs ++ Array.replicate (fn.ntmps - cargs.size) undef, defers := [] } [.code c] := by
    simp [Frame.enter, Frame.atR, hf, hb, b]
  have hrcv : Rcv E (.dfr m) b (c0 :: cs) := by
    refine ⟨rfl, rfl, ?_⟩
    cases m with
    | none => simp only [recoverD]; rw [hu, hm]
    | some v =>
      obtain ⟨x, hx, hv⟩ := hm
      exact ⟨x, c0, cs, rfl, hv, by rw [hu, hx]⟩
  obtain ⟨a', cs', w', E', e, h1, h2, h3, h4, h5⟩ := codeA_sound hcall hmix c (z := ⟨fn.ntmps, w.heap.size⟩) (hgood c hb) hcode (begin_rep hl hn hH hF (.dfr m)) (b := b) (k := []) hrcv
  rw [← henter] at h1
  have fin : ∀ r, deferEnd P m fn s = some r → ∃ l, s.defs = [] ∧ resultsA P s.h s.tmps fn.results.toList = some l ∧ ((∃ x, s.rcv = .dfr (some x) ∧ r = (m, s.h)) ∨ (s.rcv = .dfr none ∧ r = (none, s.h))) := by
    intro r hr
    unfold deferEnd at hr
    split at hr
    · rename_i hd
      split at hr
      · rename_i l hl
        split at hr
        · rename_i x hx; cases hr; exact ⟨l, hd, hl, .inl ⟨x, hx, rfl⟩⟩
        · rename_i hx; cases hr; exact ⟨l, hd, hl, .inr ⟨hx, rfl⟩⟩
        · cases hr
      · cases hr
    · cases hr
  have all : deferEnd P m fn s = some (m', h') → ∀ todo, Steps P (lone (Frame.enter P g cargs .deferred) (c0 :: cs) w) (lone { b.atR a' todo with mode := .returning } cs' w') →
      ∃ e u' w' fr, (∃ v E', e = .returned v ∧ RepM E' m' (settle u') ∧ Post P (fun i => h.next ≤ i) E h w E' h' w') ∧ Comes P (lone (Frame.enter P g cargs .deferred) (c0 :: cs) w) (lone fr ({ c0 with mode := u' } :: cs) w') e ∧ fr.kind = .deferred ∧ fr.going P w' e := by
    intro hend todo hsteps
    obtain ⟨l, hd, hl, hcase⟩ := fin _ hend
    -- the caller's mode
    have hmode : ∃ u', cs' = { c0 with mode := u' } :: cs ∧ RepM E' m' (settle u') ∧ h' = s.h := by
      rcases h5 with ⟨hr1, hr2⟩ | ⟨x, c1, rest, ux, r1, r2, r3, r4, r5⟩
      · refine ⟨u, by rw [hr2, ← hu], ?_⟩
        rcases hcase with ⟨x, hx, hh⟩ | ⟨hx, hh⟩
        · cases hh
          refine ⟨?_, rfl⟩
          rw [hx] at hr1
          cases m with
          | none => cases hr1
          | some v =>
            obtain ⟨y, hy, hv⟩ := hm
            refine ⟨y, by rw [hy]; rfl, hv.mono h4.fr.le⟩
        · cases hh
          refine ⟨?_, rfl⟩
          rw [hx] at hr1
          cases m with
          | none => rw [hm]; rfl
          | some v => cases hr1
      · cases r3
        refine ⟨.panicking [{ v := ux, recovered := true }], r5, ?_⟩
        rcases hcase with ⟨y, hx, hh⟩ | ⟨hx, hh⟩
        · rw [r2] at hx; cases hx
        · cases hh
          exact ⟨rfl, rfl⟩
    obtain ⟨u', hcs, hM, hh⟩ := hmode
    subst hcs hh
    -- its own marks
    have hD := h3.defs
    rw [hd] at hD
    have hlv : leaveA P F call lf [] none s.h = some (none, s.h) := rfl
    obtain ⟨E2, w2, u2, q1, q2, q3, q4⟩ := leaveA_steps (P := P) (F := F) (call := call) (lf := lf) (N := fun i => h.next ≤ i) (E0 := E) (h0 := h) (w0 := w) a'.defers (.inl rfl) hlv hD h3.col h4 (fun i hi => Nat.le_trans h4.next hi) { b.atR a' todo with mode := .returning } ({ c0 with mode := u' } :: cs) rfl rfl
    cases q1
    obtain ⟨v, hv, _⟩ := results_sound (fn := fn) q2.rep (h3.tm.mono q3) hl
    exact ⟨.returned v, u', w2, _, ⟨v, E2, rfl, hM.mono q3, q2⟩, Steps.trans hsteps q4, rfl, rfl, rfl, fn, hf, hv⟩
  cases o with
  | normal =>
    cases h2
    exact all hr [] (Steps.trans h1 (.one (stepR_end rfl)))
  | ret =>
    cases h2
    obtain ⟨todo, hs⟩ := h1
    exact all hr (.code .ret :: todo) (Steps.trans hs (.one (stepR_ret rfl)))
  | _ => cases hr

/-- a call of a function -/
theorem enterA_sound {f : FuncId} {args : List AV} {h : AH} {r : CR} (hr : enterA P F call lf f args h = some r) {E : Env} {w : World} {cargs : Array Value} (hl : RepL E args cargs.toList) (hH : RepH P E h.get w) (hF : Fresh E h.next) :
    CallOk P (.func f) cargs w (CRok P (fun i => h.next ≤ i) E h w r) := by
  unfold enterA at hr
  split at hr
  case h_2 => cases hr
  rename_i fn hfn
  obtain ⟨hf, hname, hgood⟩ := hFn f fn hfn
  split at hr
  case h_2 => cases hr
  rename_i c hb
  refine .inl ⟨f, cargs, by simp only [invoke, Array.append_empty]; exact callFunc_run hf hname hb _ _, ?_⟩
  unfold outO at hr
  split at hr
  case h_2 => cases hr
  rename_i o s hbody
  obtain ⟨hn, hcode⟩ := bodyA_some hbody
  intro cs
  let b : Frame := { (default : Frame) with fn := f, kind := .normal, roundOf := none }
  have henter : Frame.enter P f cargs .normal =
      b.atR { tmps := cargs ++ Array.replicate (fn.ntmps - cargs.size) undef, defers := [] } [.code c] := by
    simp [Frame.enter, Frame.atR, hf, hb, b]
  obtain ⟨a', cs', w', E', e, h1, h2, h3, h4, h5⟩ := codeA_sound hcall hmix c (z := ⟨fn.ntmps, w.heap.size⟩) (hgood c hb) hcode (begin_rep hl hn hH hF .out) (b := b) (k := []) (cs := cs) rfl
  rw [← henter] at h1
  have hcs : cs' = cs := by
    rcases h5 with ⟨_, h⟩ | ⟨x, _, _, _, h, _⟩
    · exact h
    · cases h
  subst hcs
  have hdef := deferA_sound hFn hcall hmix (lf := lf)
  have leave : ∀ m u, RepM E' m u → leftO P fn s.tmps (leaveA P F call lf s.defs m s.h) = some r → ∀ todo, Steps P (lone (Frame.enter P f cargs .normal) cs' w) (lone { b.atR a' todo with mode := u } cs' w') →
      ∃ e w' fr, CRok P (fun i => h.next ≤ i) E h w r e w' ∧ Comes P (lone (Frame.enter P f cargs .normal) cs' w) (lone fr cs' w') e ∧ fr.fn = f ∧ fr.leaving P w' e := by
    intro m u hm hlo todo hsteps
    unfold leftO at hlo
    split at hlo
    case h_2 => cases hlo
    rename_i m' h' hlv
    obtain ⟨E2, w2, u2, q1, q2, q3, q4⟩ := leaveA_steps (P := P) (F := F) (call := call) (lf := lf) (N := fun i => h.next ≤ i) (E0 := E) (h0 := h) (w0 := w) a'.defers (.inr hdef) hlv h3.defs h3.col h4 (fun i hi => Nat.le_trans h4.next hi) { b.atR a' todo with mode := u } cs' hm rfl
    have hall := Steps.trans hsteps q4
    cases m' with
    | none =>
      cases q1
      simp only at hlo
      unfold valO at hlo
      split at hlo
      case h_2 => cases hlo
      rename_i l hl
      cases hlo
      obtain ⟨v, hv1, hv2⟩ := results_sound (fn := fn) q2.rep (h3.tm.mono q3) hl
      exact ⟨.returned v, w2, _, ⟨v, E2, rfl, hv2, q2⟩, hall, rfl, rfl, rfl, rfl, fn, hf, hv1⟩
    | some v =>
      obtain ⟨x, rfl, hx⟩ := q1
      simp only at hlo
      cases hlo
      exact ⟨.panicked _, w2, _, ⟨x, E2, rfl, hx, q2⟩, hall, rfl, rfl, rfl, fn, hf⟩
  cases o with
  | normal =>
    cases h2
    exact leave none _ rfl hr [] (Steps.trans h1 (.one (stepR_end rfl)))
  | ret =>
    cases h2
    obtain ⟨todo, hs0⟩ := h1
    exact leave none _ rfl hr (.code .ret :: todo) (Steps.trans hs0 (.one (stepR_ret rfl)))
  | panic v =>
    obtain ⟨x, rfl, hx⟩ := h2
    obtain ⟨todo, hs0⟩ := h1
    exact leave (some v) _ ⟨x, rfl, hx⟩ hr todo hs0
  | _ => cases hr
end calls

/-! ### a round -/
theorem roundEnd_some {L : Nat} {h : AH} {b : Bool} {st : LS} {r : CR} (hr : roundEnd L h b st = some r) : ∃ la, loopAt false h L = some la ∧ r = .val (.bool b) (loopPut h L la st) := by
  unfold roundEnd at hr
  split at hr
  · rename_i la hla; cases hr; exact ⟨la, hla, rfl⟩
  · cases hr

theorem roundA_sound {call : CallF} (hcall : CallSound P call) (hmix : P.follows .mixedOrders = true) {lf L : Nat} {args : List AV} {h : AH} {r : CR} (hr : roundA P call lf L args h = some r) {E : Env} {w : World} {cargs : Array Value} {f' : Fn} (hfn : FnOk E (.yield L) f') (hl : RepL E args cargs.toList) (hH : RepH P E h.get w) (hF : Fresh E h.next) :
    CallOk P f' cargs w (CRok P (fun i => h.next ≤ i) E h w r) := by
  obtain ⟨bl, rfl, e, he, hblk⟩ := hfn
  unfold roundA at hr
  split at hr
  case h_2 => cases hr
  rename_i la hla
  split at hr
  case h_2 => cases hr
  rename_i tm htm
  obtain ⟨r0, hg, hlp, hver, hst⟩ := loopAt_some hla
  obtain ⟨hev, hat⟩ := loop_row hH hg hlp hver he
  have := hblk hev
  subst this
  obtain ⟨⟨rr, hrr, hsz, hrt, hps, hasg, hbody, hls⟩, hpsn, hgasg, hgbody⟩ := hat
  obtain ⟨q1, q2, q3⟩ := setPs_sound htm hl hrt (fun t ht => by rw [hsz]; exact hpsn t ht)
  have hargs : cargs.size = rr.params.size := by
    have : cargs.toList.length = rr.params.toList.length := by rw [q1, hps]
    simpa using this
  refine .inr (.inr ⟨e.blk, rr.fn, _, rr.assign, rr.body, by simp only [invoke]; exact run_yield hrr hargs, ?_⟩)
  intro c cs
  have htmps : (rr.params.zip cargs).foldl (fun tmps (t, a) => tmps.setIfInBounds t a) rr.tmps = (la.ps.zip cargs.toList).foldl (fun tmps (x : Nat × Value) => tmps.setIfInBounds x.1 x.2) rr.tmps := by
    rw [← hps]; exact setPs_array
  rw [htmps]
  generalize hgen : (la.ps.zip cargs.toList).foldl (fun tmps (x : Nat × Value) => tmps.setIfInBounds x.1 x.2) rr.tmps = tmps0 at q2 q3
  let b : Frame := { (default : Frame) with fn := rr.fn, kind := .normal, roundOf := some e.blk }
  have hb0 : Frame.round e.blk rr.fn tmps0 rr.assign rr.body .normal = b.atR { tmps := tmps0, defers := [] } [.code rr.assign, .beginRound, .code rr.body] := by
    simp [Frame.round, Frame.atR, b]
  rw [hb0]
  have hs0 : RepS P ⟨la.n, w.heap.size⟩ E ⟨tm, [], h, .rnd⟩ { tmps := tmps0, defers := [] } w :=
    ⟨q2, by rw [← hsz]; exact q3, .nil, hH, hF, ⟨by simp [colBlocks], by simp [colBlocks]⟩, Nat.le_refl _⟩
  unfold roundBody at hr
  split at hr
  case h_2 => cases hr
  rename_i o1 s1 hcode1
  cases o1 <;> simp only at hr <;> try cases hr
  split at hr
  case h_2 => cases hr
  rename_i lb hlb
  have hrc : Rcv E Rc.rnd b (c :: cs) := by simp [Rcv, b]
  obtain ⟨a1, cs1, w1, E1, x1, h1, h2, h3, h4, h5⟩ := codeA_sound hcall hmix la.asg hgasg hcode1 hs0 (b := b) (k := [.beginRound, .code rr.body]) hrc
  simp only [OutOk] at h2
  subst h2
  have hrcs : s1.rcv = .rnd ∧ cs1 = c :: cs := by
    rcases h5 with ⟨h5, h6⟩ | ⟨x, _, _, _, h5, _⟩
    · exact ⟨h5, h6⟩
    · cases h5
  obtain ⟨hr1, rfl⟩ := hrcs
  rw [hasg]
  -- it begins
  obtain ⟨rb, hgb, hlpb, hverb, hstb⟩ := loopAt_some hlb
  obtain ⟨e1, he1, hrel1⟩ := h4.fr.le.ids L e he
  obtain ⟨hev1, hat1⟩ := loop_row h3.heap hgb hlpb hverb he1
  have : e1 = e := by
    rcases hrel1 with h0 | h0
    · exact h0
    · omega
  subst this
  obtain ⟨rr1, hrr1, _, _, _, _, _, hls1⟩ := hat1.ex
  rw [hstb] at hls1
  simp only [if_true, LSok] at hls1
  have hbegin := run_beginRound (P := P) hrr1 hls1.1
  have pb : Post P (fun i => h.next ≤ i) E1 s1.h w1 E1 (loopPut s1.h L lb .busy) (w1.putObj e1.blk (.loop { rr1 with state := .busy })) :=
    loop_put h3.heap h3.fresh hgb hlpb hverb he1 hrr1 (state := .busy) (pending := rr1.pending) (st := .busy) ⟨rfl, hls1.2⟩
  have hs2 := h3.next pb (rcv := s1.rcv) (h3.tm.mono pb.fr.le) rfl rfl
  have hstep1 := stepR_beginRound (P := P) (b := b) (a := a1) (k := [.code rr.body]) (cs := c :: cs) (w := w1) rfl hbegin
  -- the body
  unfold roundO at hr
  split at hr
  case h_2 => cases hr
  rename_i o2 s2 hcode2
  have hrc2 : Rcv E1 s1.rcv b (c :: cs) := by rw [hr1]; simp [Rcv, b]
  obtain ⟨a2, cs2, w2, E2, x2, g1, g2, g3, g4, g5⟩ := codeA_sound hcall hmix la.body hgbody hcode2 hs2 (b := b) (k := []) hrc2
  have hcs2 : cs2 = c :: cs := by
    rcases g5 with ⟨_, g5⟩ | ⟨x, _, _, _, g5, _⟩
    · exact g5
    · simp only at g5; rw [hr1] at g5; cases g5
  subst hcs2
  rw [← hbody] at g1
  have p2 : Post P (fun i => h.next ≤ i) E h w E2 s2.h w2 := (h4.trans pb).trans ⟨g4.rep, g4.fr.mono fun i hi => by
    have h6 : h.next ≤ s1.h.next := h4.next
    have h7 : s1.h.next ≤ (loopPut s1.h L lb .busy).next := pb.next
    exact Nat.le_trans h6 (Nat.le_trans h7 hi), g4.next, g4.fresh⟩
  have hpre : Steps P (lone (b.atR { tmps := tmps0, defers := [] } [.code la.asg, .beginRound, .code rr.body]) (c :: cs) w) (lone (b.atR a1 [.code rr.body]) (c :: cs) (w1.putObj e1.blk (.loop { rr1 with state := .busy }))) :=
    Steps.trans h1 (.one hstep1)
  -- its end
  have fin : ∀ (bb : Bool) (st : LS) (jump : Option Code), roundEnd L s2.h bb st = some r → bb = jump.isNone → (∀ rx : Loop, LSok st { rx with state := if jump.isNone then .ready else .done, pending := jump }) →
      ∃ w3, (∃ rx, w2.heap[e1.blk]? = some (.loop rx) ∧ w3 = w2.putObj e1.blk (.loop { rx with state := if jump.isNone then .ready else .done, pending := jump })) ∧ CRok P (fun i => h.next ≤ i) E h w r (.returned (.bool jump.isNone)) w3 := by
    intro bb st jump hre hbb hlsx
    obtain ⟨lc, hlc, rfl⟩ := roundEnd_some hre
    obtain ⟨rc, hgc, hlpc, hverc, _⟩ := loopAt_some hlc
    obtain ⟨e2, he2, hrel2⟩ := (pb.fr.le.trans g4.fr.le).ids L e1 he1
    obtain ⟨hev2, hat2⟩ := loop_row g3.heap hgc hlpc hverc he2
    have : e2 = e1 := by
      rcases hrel2 with h0 | h0
      · exact h0
      · omega
    subst this
    obtain ⟨rx, hrx, _⟩ := hat2.ex
    have pe : Post P (fun i => h.next ≤ i) E2 s2.h w2 E2 (loopPut s2.h L lc st) (w2.putObj e2.blk (.loop { rx with state := if jump.isNone then .ready else .done, pending := jump })) :=
      loop_put g3.heap g3.fresh hgc hlpc hverc he2 hrx (hlsx rx)
    refine ⟨_, ⟨rx, hrx, rfl⟩, .bool jump.isNone, E2, rfl, ?_, p2.trans pe⟩
    subst hbb
    simp only [RepV]
  split at hr
  case h_2 => cases hr
  cases o2 with
  | normal =>
    simp only [OutOk] at g2; subst g2
    obtain ⟨w3, ⟨rx, hrx, rfl⟩, hR⟩ := fin true .ready none hr rfl (fun rx => ⟨rfl, rfl⟩)
    exact ⟨_, _, hR, Steps.trans hpre (Steps.trans g1 (.one (stepR_round_end rfl rfl (run_endRound none hrx))))⟩
  | ret =>
    simp only [OutOk] at g2; subst g2
    obtain ⟨k', g1⟩ := g1
    obtain ⟨w3, ⟨rx, hrx, rfl⟩, hR⟩ := fin false .ret (some .ret) hr rfl (fun rx => ⟨rfl, rfl⟩)
    exact ⟨_, _, hR, Steps.trans hpre (Steps.trans g1 (.one (stepR_round_ret rfl rfl (run_endRound (some .ret) hrx))))⟩
  | exit id =>
    simp only [OutOk] at g2; subst g2
    obtain ⟨k', hx, g1⟩ := g1
    obtain ⟨w3, ⟨rx, hrx, rfl⟩, hR⟩ := fin false (.exit id) (some (.exit id)) hr rfl (fun rx => ⟨rfl, rfl⟩)
    exact ⟨_, _, hR, Steps.trans hpre (Steps.trans g1 (.one (stepR_round_exit rfl rfl (by rw [hx]; rfl) (run_endRound (some (.exit id)) hrx))))⟩
  | _ => cases hr

/-- THE EVALUATOR IS SOUND, to any depth, beside any calls that are told otherwise and soundly. -/
theorem funA_sound {F : Nat → Option Func} (hFn : FOk P F) (hmix : P.follows .mixedOrders = true) {prim : CallF} (hprim : CallSound P prim) {lf : Nat} : ∀ n, CallSound P (funA P F prim lf n)
  | 0 => by intro f args h r hr; cases hr
  | n + 1 => by
    intro f args h r hr E w cargs f' hfn hl hH hF
    have e : funA P F prim lf (n + 1) f args h = callA P F prim lf (funA P F prim lf n) f args h := rfl
    rw [e] at hr
    have ih := funA_sound hFn hmix hprim (lf := lf) n
    cases f <;> simp only [callA] at hr <;> try cases hr
    case func g =>
      have hfn' : f' = .func g := hfn
      subst hfn'
      unfold primO at hr
      split at hr
      · rename_i x hx
        cases hr
        exact hprim _ args h r hx E w cargs _ rfl hl hH hF
      · exact enterA_sound hFn ih hmix hr hl hH hF
    case yield L => exact roundA_sound ih hmix hr hfn hl hH hF

/-! ### what the machine's own check of the program tells -/
theorem bind_ok {α β : Type} {x : Except String α} {k : α → Except String β} {b : β} (h : (x >>= k) = .ok b) : ∃ a, x = .ok a ∧ k a = .ok b := by
  cases x with
  | error e => cases h
  | ok a => exact ⟨a, rfl, h⟩
theorem forM_ok {α : Type} {f : α → Except String Unit} : ∀ {l : List α}, l.forM f = .ok () → ∀ x ∈ l, f x = .ok ()
  | [], _, x, hx => by cases hx
  | a :: l, h, x, hx => by
    have h : (f a >>= fun _ => l.forM f) = .ok () := h
    obtain ⟨_, h1, h2⟩ := bind_ok h
    rcases List.mem_cons.1 hx with rfl | hx
    · exact h1
    · exact forM_ok h2 x hx
theorem aforM_ok {α : Type} {f : α → Except String Unit} {xs : Array α} {u : Unit} (h : xs.forM f = .ok u) : ∀ x ∈ xs, f x = .ok () := by
  cases xs with
  | mk l =>
    have h' : l.forM f = .ok () := by
      have := List.forM_toArray (l := l) (f := f) (m := Except String)
      exact (this.symm.trans h)
    intro x hx
    exact forM_ok h' x (by simpa using hx)
theorem require_ok {b : Bool} {m : String} (h : CheckCode.require b m = .ok ()) : b = true := by
  unfold CheckCode.require at h
  cases b with
  | true => rfl
  | false => cases h
theorem mapError_ok {α : Type} {x : Except String α} {f : String → String} {a : α} (h : x.mapError f = .ok a) : x = .ok a := by
  cases x with
  | error e => cases h
  | ok b => exact h

theorem region_good {f : Func} {id : Nat} {ops : Array Oper} {d : Bool} (h : CheckCode.region P f id ops d = .ok ()) : opsDst f.ntmps ops ∧ (d = true → DrawGood P ops) := by
  unfold CheckCode.region at h
  obtain ⟨_, h1, h2⟩ := bind_ok h
  obtain ⟨_, h3, h4⟩ := bind_ok h2
  refine ⟨?_, fun hd => by subst hd; exact require_ok h4⟩
  intro i o ho t ht
  have h5 := forM_ok h1 (o, i) (by rw [List.mem_zipIdx_iff_getElem?]; simpa using ho)
  simp only [ht] at h5
  obtain ⟨_, h6, _⟩ := bind_ok h5
  simpa using require_ok h6

theorem code_good {f : Func} : ∀ (c : Code) {bs ls : List Nat}, CheckCode.code P f bs ls c = .ok () → CodeGood P f.ntmps c
  | .region _ _ _, _, _, h => region_good h
  | .seq a b, bs, ls, h => by
    obtain ⟨_, h1, h2⟩ := bind_ok h
    exact ⟨code_good a h1, code_good b h2⟩
  | .cond c a b, bs, ls, h => by
    obtain ⟨_, _, h⟩ := bind_ok h
    obtain ⟨_, h1, h2⟩ := bind_ok h
    exact ⟨code_good a h1, code_good b h2⟩
  | .block _ c, bs, ls, h => code_good c h
  | .loop c, bs, ls, h => code_good c h
  | .skip, _, _, _ | .ret, _, _, _ | .label _, _, _, _ | .refuse _, _, _, _ | .exit _, _, _, _ | .scope _, _, _, _ | .goto _, _, _, _ => trivial
  | .rangeFunc g ps a c, bs, ls, h => by
    obtain ⟨_, _, h⟩ := bind_ok h
    obtain ⟨_, h1, h⟩ := bind_ok h
    obtain ⟨_, _, h⟩ := bind_ok h
    obtain ⟨_, h2, h3⟩ := bind_ok h
    refine ⟨fun t ht => ?_, code_good a h2, code_good c h3⟩
    have h1 := aforM_ok h1
    simpa using require_ok (h1 t ht)

theorem good_of_check (h : P.check = .ok ()) {f : Nat} {fn : Func} (hf : P.funcs[f]? = some fn) {c : Code} (hb : fn.body = some c) : CodeGood P fn.ntmps c := by
  unfold Program.check at h
  obtain ⟨_, h1, _⟩ := bind_ok h
  have hlt := (Array.getElem?_eq_some_iff.1 hf).1
  have h2 := forM_ok h1 f (by simpa using hlt)
  unfold CheckCode.funcAt at h2
  rw [hf] at h2
  simp only at h2
  have h3 := mapError_ok h2
  unfold CheckCode.func at h3
  obtain ⟨_, _, h3⟩ := bind_ok h3
  obtain ⟨_, _, h3⟩ := bind_ok h3
  obtain ⟨_, _, h3⟩ := bind_ok h3
  rw [hb] at h3
  simp only at h3
  obtain ⟨_, _, h3⟩ := bind_ok h3
  obtain ⟨_, h4, _⟩ := bind_ok h3
  exact code_good c h4

end Go.Proofs.YtckcgijepiejlaaGreat.Ae
