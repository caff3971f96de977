/-
  WHAT ACTS: calls, panics, what is deferred; and a region in the order of its text.
-/
import Derived.Test.YtckcgijepiejlaaGreatAeApp
namespace Go.Proofs.YtckcgijepiejlaaGreat.Ae
open Go
set_option linter.unusedVariables false
set_option linter.unusedSimpArgs false
set_option linter.unnecessarySimpa false
variable {P : Program} {E : Env} {w : World}

/-- a caller, behind the call -/
def After (c : Frame) (cs : List Frame) : Ending → World → Machine
  | .returned v, w => lone (c.finish v) cs w
  | .panicked chain, w => lone (c.raise chain) cs w
  | .outgrown, w => lone c cs w

/-- a round of a loop over a function -/
def Rounds (P : Program) (l : Nat) (fn : FuncId) (tmps : Array Value) (asg body : Code) (w : World) (R : Ending → World → Prop) : Prop :=
  ∀ (c : Frame) (cs : List Frame), ∃ e w', R e w' ∧ Steps P (lone (Frame.round l fn tmps asg body .normal) (c :: cs) w) (After c cs e w')

/-- a function as it is called: entered, or answered on the spot, or a round -/
def CallOk (P : Program) (f : Fn) (args : Array Value) (w : World) (R : Ending → World → Prop) : Prop :=
  (∃ g gs, (invoke (.fn f #[]) args).run P w = .ok (.enter g gs) w ∧ Calls P g gs w R) ∨ (∃ v w', (invoke (.fn f #[]) args).run P w = .ok (.value v) w' ∧ R (.returned v) w') ∨
    ∃ l fn tmps asg body, (invoke (.fn f #[]) args).run P w = .ok (.round l fn tmps asg body) w ∧ Rounds P l fn tmps asg body w R

/-- the environment knows no number from n on -/
def Fresh (E : Env) (n : Nat) : Prop := ∀ id, n ≤ id → E.ids id = none

/-- behind a step: heap, frame, numbers -/
structure Post (P : Program) (N : Nat → Prop) (E : Env) (h : AH) (w : World) (E' : Env) (h' : AH) (w' : World) : Prop where
  rep : RepH P E' h'.get w'
  fr : Fr N E h.get w E' h'.get w'
  next : h.next ≤ h'.next
  fresh : Fresh E' h'.next

theorem Post.trans {N : Nat → Prop} {E0 E1 E2 : Env} {h0 h1 h2 : AH} {w0 w1 w2 : World} (a : Post P N E0 h0 w0 E1 h1 w1) (b : Post P N E1 h1 w1 E2 h2 w2) : Post P N E0 h0 w0 E2 h2 w2 :=
  ⟨b.rep, a.fr.trans b.fr, Nat.le_trans a.next b.next, b.fresh⟩

/-- what a call comes to -/
def CRok (P : Program) (N : Nat → Prop) (E : Env) (h : AH) (w : World) (r : CR) (e : Ending) (w' : World) : Prop :=
  match r with
  | .val v h' => ∃ u E', e = .returned u ∧ RepV E' v u ∧ Post P N E h w E' h' w'
  | .pan v h' => ∃ u E', e = .panicked [{ v := u, recovered := false }] ∧ RepV E' v u ∧ Post P N E h w E' h' w'

def CallSound (P : Program) (call : CallF) : Prop :=
  ∀ f args h r, call f args h = some r → ∀ E w (cargs : Array Value) f', FnOk E f f' → RepL E args cargs.toList → RepH P E h.get w → Fresh E h.next →
    CallOk P f' cargs w (CRok P (fun id => h.next ≤ id) E h w r)

/-- what an operation comes to that acts -/
inductive ActOk (P : Program) (N : Nat → Prop) (E : Env) (h : AH) (w : World) (a : Act) (o : Oper) : Stp → Prop where
  | value {v : AV} {h' : AH} {u : Value} {E' : Env} {w' : World} (hr : (execOp a.eval o).run P w = .ok (.value u) w') (hv : RepV E' v u) (hp : Post P N E h w E' h' w') : ActOk P N E h w a o (.next v h')
  | skip {h' : AH} {E' : Env} {w' : World} (hr : (execOp a.eval o).run P w = .ok .skip w') (hp : Post P N E h w E' h' w') : ActOk P N E h w a o (.next undefA h')
  | round {r : CR} {s : Stp} {l : Nat} {fn : FuncId} {tmps : Array Value} {asg body : Code} (hr : (execOp a.eval o).run P w = .ok (.round l fn tmps asg body) w) (hc : Rounds P l fn tmps asg body w (CRok P N E h w r)) (hs : callO (some r) = some s) : ActOk P N E h w a o s
  | enter {r : CR} {s : Stp} {f : FuncId} {args : Array Value} (hr : (execOp a.eval o).run P w = .ok (.enter f args) w) (hc : Calls P f args w (CRok P N E h w r)) (hs : callO (some r) = some s) : ActOk P N E h w a o s
  | pan {v : AV} {u : Value} (hr : (execOp a.eval o).run P w = .halt (.panic u) w) (hv : RepV E v u) : ActOk P N E h w a o (.pan v h)
  | defer {d : AV × List AV} {e : Deferred} (hr : (execOp a.eval o).run P w = .ok (.defer e) w)
      (hd : ∃ g x y p q r, d.1 = .fn (.func g) x y ∧ e = { target := .fn (.func g) q, args := p ++ r } ∧ RepL E x p.toList ∧ RepL E y q.toList ∧ RepL E d.2 r.toList) : ActOk P N E h w a o (.defer d)
  | recover (hr : (execOp a.eval o).run P w = .ok .recover w) : ActOk P N E h w a o .recover

theorem Post.of {N : Nat → Prop} {h h' : AH} {E' : Env} {w' : World} (hF : Fresh E h.next) (h1 : RepH P E' h'.get w') (h2 : Fr N E h.get w E' h'.get w') (hn : h'.next = h.next) (hN : ∀ id, N id → id < h.next) : Post P N E h w E' h' w' :=
  ⟨h1, h2, by omega, fun id hid => by
    cases he : E'.ids id with
    | none => rfl
    | some e =>
      have := hN id (h2.new id (hF id (by omega)) (by rw [he]; simp))
      omega⟩

theorem nextO_some {o : Option (AV × AH)} {s : Stp} (h : nextO o = some s) : ∃ v h', o = some (v, h') ∧ s = .next v h' := by
  unfold nextO at h
  split at h
  · cases h; exact ⟨_, _, rfl, rfl⟩
  · cases h
theorem unitO_some {o : Option AH} {s : Stp} (h : unitO o = some s) : ∃ h', o = some h' ∧ s = .next undefA h' := by
  unfold unitO at h
  split at h
  · cases h; exact ⟨_, rfl, rfl⟩
  · cases h
theorem two_some {α : Type} {xs : List AV} {k : AV → AV → Option α} {y : α} (h : two xs k = some y) : ∃ x z l, xs = x :: z :: l ∧ k x z = some y := by
  unfold two at h
  split at h
  · exact ⟨_, _, _, rfl, h⟩
  · cases h
theorem notInt_of {d : Option TypeDesc} {α : Type} {x : Option α} {y : α} (h : (bif notInt d then x else none) = some y) : notInt d = true ∧ x = some y := by
  cases hd : notInt d with
  | true => rw [hd, cond_true] at h; exact ⟨rfl, h⟩
  | false => rw [hd, cond_false] at h; cases h

theorem panA_some {x : AV} {h : AH} {s : Stp} (hp : panA x h = some s) : (∃ t v, x = .iface t v) ∧ s = .pan x h := by
  cases x <;> simp only [panA] at hp <;> try cases hp
  exact ⟨⟨_, _, rfl⟩, rfl⟩

theorem evos_cons {tm : Tm} : ∀ {l : List Operand} {x : AV} {r : List AV}, evos tm l = x :: r → ∃ o l', l = o :: l' ∧ x = evo tm o ∧ r = evos tm l'
  | [], _, _, h => by cases h
  | o :: l, x, r, h => by cases h; exact ⟨o, l, rfl, rfl, rfl⟩

theorem opActA_sound {call : CallF} (hcall : CallSound P call) {h : AH} (hH : RepH P E h.get w) (hF : Fresh E h.next) {tm : Tm} {a : Act} {o : Oper} (hT : ∀ x ∈ o.op.operands, RepV E (evo tm x) (a.eval x)) {id : Nat} (hid : E.ids id = none) (hlt : id < h.next)
    {s : Stp} (hs : opActA P call h tm id o.op = some s) : ActOk P (fun i => i = id ∨ h.next ≤ i) E h w a o s := by
  -- the numbers of one row
  have one : ∀ {E' : Env} {h' : AH} {w' : World}, RepH P E' h'.get w' → Fr (fun i => i = id) E h.get w E' h'.get w' → h'.next = h.next → Post P (fun i => i = id ∨ h.next ≤ i) E h w E' h' w' := by
    intro E' h' w' h1 h2 h3
    have := Post.of (h := h) (h' := h') hF h1 h2 h3 (fun i hi => by omega)
    exact ⟨this.rep, this.fr.mono (fun i hi => .inl hi), this.next, this.fresh⟩
  cases hop : o.op <;> rw [hop] at hs hT <;> simp only [opActA] at hs <;> try cases hs
  case store t x y =>
    obtain ⟨h', h1, rfl⟩ := unitO_some hs
    obtain ⟨w', r1, r2, r3, r4⟩ := storeA_sound (P := P) (N := fun i => i = id) hH (hT x (by simp [Op.operands])) (hT y (by simp [Op.operands])) h1
    exact .skip (by simp [execOp, hop, r1]) (one r2 r3 r4)
  case panic x =>
    obtain ⟨⟨t, v, hx⟩, rfl⟩ := panA_some hs
    have hv := hT x (by simp [Op.operands])
    have hv' := hv
    rw [hx] at hv'
    simp only [RepV] at hv'
    obtain ⟨u, hu, _⟩ := hv'
    exact .pan (by simp [execOp, hop, Instr.panic, hu]) hv
  case defer c =>
    split at hs
    · rename_i f hf
      have hv := hT f (by simp [Op.operands, Call.operands, hf])
      have hargs : RepL E (evos tm c.args.toList) (c.args.map a.eval).toList := by
        simpa using repL_evos (E := E) (tm := tm) (a := a) c.args.toList (fun x hx => hT x (by simp only [Op.operands, Call.operands, hf]; simp; exact .inr (by simpa using hx)))
      unfold deferV at hs
      split at hs
      · rename_i g x y hg
        cases hs
        rw [hg] at hv
        simp only [RepV, FnOk] at hv
        obtain ⟨f', p, q, hu, rfl, hp, hq⟩ := hv
        exact .defer (e := { target := .fn (.func g) q, args := p ++ c.args.map a.eval }) (by simp [execOp, hop, resolve, hf, hu, Deferred.ofValue]) ⟨g, x, y, p, q, c.args.map a.eval, rfl, rfl, hp, hq, hargs⟩
      · cases hs
    · cases hs
  case call c =>
    have hargs : RepL E (evos tm c.args.toList) (c.args.map a.eval).toList := by
      simpa using repL_evos (E := E) (tm := tm) (a := a) c.args.toList (fun x hx => hT x (by simp only [Op.operands, Call.operands]; simp; exact .inr (by simpa using hx)))
    split at hs
    · rename_i f hf
      have hv := hT f (by simp [Op.operands, Call.operands, hf])
      -- the call, of a function or of a loop's round
      have go : ∀ {g f' : Fn} {p q : Array Value} {l : List AV} {r : CR}, a.eval f = .func f' p q → FnOk E g f' → (invoke (.fn f' q) (p ++ c.args.map a.eval)).run P w = (invoke (.fn f' #[]) (p ++ c.args.map a.eval ++ q)).run P w →
          RepL E l (p ++ c.args.map a.eval ++ q).toList → call g l h = some r → callO (some r) = some s → ActOk P (fun i => i = id ∨ h.next ≤ i) E h w a o s := by
        intro g f' p q l r hu hfn hinv hl hr hs
        have hexec : (execOp a.eval o).run P w = (invoke (.fn f' #[]) (p ++ c.args.map a.eval ++ q)).run P w := by
          rw [← hinv]
          simp [execOp, hop, resolve, hf, hu, Deferred.ofValue]
        have mono : ∀ e w', CRok P (fun i => h.next ≤ i) E h w r e w' → CRok P (fun i => i = id ∨ h.next ≤ i) E h w r e w' := by
          intro e w' hc
          cases r with
          | val v h' =>
            obtain ⟨u, E', h1, h2, h3⟩ := hc
            exact ⟨u, E', h1, h2, h3.rep, h3.fr.mono (fun i hi => .inr hi), h3.next, h3.fresh⟩
          | pan v h' =>
            obtain ⟨u, E', h1, h2, h3⟩ := hc
            exact ⟨u, E', h1, h2, h3.rep, h3.fr.mono (fun i hi => .inr hi), h3.next, h3.fresh⟩
        rcases hcall g _ h r hr E w _ f' hfn hl hH hF with ⟨g', gs, h1, h2⟩ | ⟨v, w', h1, h2⟩ | ⟨lp, fn, tmps, asg, body, h1, h2⟩
        · exact .enter (r := r) (hexec.trans h1) (h2.mono mono) hs
        · have h3 := mono _ _ h2
          cases r with
          | val v' h' =>
            cases hs
            obtain ⟨u, E', e1, e2, e3⟩ := h3
            cases e1
            exact .value (hexec.trans h1) e2 e3
          | pan v' h' =>
            obtain ⟨u, E', e1, _⟩ := h3
            cases e1
        · exact .round (r := r) (hexec.trans h1) (fun cc cs => by
            obtain ⟨e, w', q1, q2⟩ := h2 cc cs
            exact ⟨e, w', mono _ _ q1, q2⟩) hs
      unfold callV at hs
      split at hs
      · rename_i g x y hg
        rw [hg] at hv
        simp only [RepV] at hv
        obtain ⟨f', p, q, hu, hfn, hp, hq⟩ := hv
        have hfn' : f' = .func g := hfn
        subst hfn'
        cases hr : call (.func g) (x ++ evos tm c.args.toList ++ y) h with
        | none => rw [hr] at hs; cases hs
        | some r =>
          rw [hr] at hs
          have hl : RepL E (x ++ evos tm c.args.toList ++ y) (p ++ c.args.map a.eval ++ q).toList := by
            have := (hp.append hargs).append hq
            simpa using this
          exact go hu hfn (by simp [invoke]) hl hr hs
      · rename_i i hg
        rw [hg] at hv
        simp only [RepV] at hv
        obtain ⟨f', p, q, hu, hfn, hp, hq⟩ := hv
        have hp0 := hp.nil_inv
        have hq0 := hq.nil_inv
        have hp1 : p = #[] := by simpa using hp0
        have hq1 : q = #[] := by simpa using hq0
        subst hp1 hq1
        cases hr : call (.yield i) (evos tm c.args.toList) h with
        | none => rw [hr] at hs; cases hs
        | some r =>
          rw [hr] at hs
          exact go hu hfn (by simp) (by simpa using hargs) hr hs
      · cases hs
    · rename_i b hb
      have args0 : ∀ {x : AV} {l : List AV}, evos tm c.args.toList = x :: l → ∃ u, (c.args.map a.eval)[0]? = some u ∧ RepV E x u := by
        intro x l e
        rw [e] at hargs
        obtain ⟨u, r, e1, h1, _⟩ := hargs.uncons
        refine ⟨u, ?_, h1⟩
        have : (c.args.map a.eval).toList[0]? = some u := by rw [e1]; simp
        simpa using this
      have args1 : ∀ {x y : AV} {l : List AV}, evos tm c.args.toList = x :: y :: l → ∃ u v, (c.args.map a.eval)[0]? = some u ∧ (c.args.map a.eval)[1]? = some v ∧ RepV E x u ∧ RepV E y v := by
        intro x y l e
        rw [e] at hargs
        obtain ⟨u, r, e1, h1, h2⟩ := hargs.uncons
        obtain ⟨v, r2, e2, h3, _⟩ := h2.uncons
        subst e2
        refine ⟨u, v, ?_, ?_, h1, h3⟩
        · have : (c.args.map a.eval).toList[0]? = some u := by rw [e1]; simp
          simpa using this
        · have : (c.args.map a.eval).toList[1]? = some v := by rw [e1]; simp
          simpa using this
      have hexec : (execOp a.eval o).run P w = (builtin b c.argTypes o.type (c.args.map fun | .const _ => true | _ => false) (c.args.map a.eval)).run P w := by
        simp only [execOp, hop, resolve, hb, Sem.run_bind, Sem.run_pure, Result.andThen_ok, invoke]
        rfl
      cases b <;> simp only [builtinW] at hs <;> try cases hs
      case append =>
        split at hs
        · rename_i t u ts ht
          obtain ⟨hni, hs⟩ := notInt_of hs
          obtain ⟨x, y, l, hxy, hs⟩ := two_some hs
          obtain ⟨v, h', h1, rfl⟩ := nextO_some hs
          obtain ⟨vx, vy, a0, a1, rx, ry⟩ := args1 hxy
          have t0 : c.argTypes[0]? = some t := by
            have : c.argTypes.toList[0]? = some t := by rw [ht]; simp
            simpa using this
          have t1 : c.argTypes[1]? = some u := by
            have : c.argTypes.toList[1]? = some u := by rw [ht]; simp
            simpa using this
          obtain ⟨r, w', E', q1, q2, q3, q4, q5⟩ := appD_sound (P := P) (N := fun i => i = id) hH rx ry hid rfl h1 t0 t1 hni a0 a1 o.type
          exact .value (by rw [hexec]; simp [builtin, q1]) q2 (one q3 q4 q5)
        · cases hs
      case copy =>
        split at hs
        · rename_i t ts ht
          obtain ⟨x, y, l, hxy, hs⟩ := two_some hs
          obtain ⟨v, h', h1, rfl⟩ := nextO_some hs
          obtain ⟨vx, vy, a0, a1, rx, ry⟩ := args1 hxy
          have t0 : c.argTypes[0]? = some t := by
            have : c.argTypes.toList[0]? = some t := by rw [ht]; simp
            simpa using this
          obtain ⟨r, w', q1, q2, q3, q4, q5⟩ := copyD_sound (P := P) (N := fun i => i = id) hH rx ry h1 t0 a0 a1 o.type
          exact .value (by rw [hexec]; simp [builtin, q1]) q2 (one q3 q4 q5)
        · cases hs
      case clear =>
        split at hs
        · rename_i t ts ht
          obtain ⟨x, l, hxy, hs⟩ := head1_some hs
          obtain ⟨v, h', h1, rfl⟩ := nextO_some hs
          obtain ⟨vx, a0, rx⟩ := args0 hxy
          have t0 : c.argTypes[0]? = some t := by
            have : c.argTypes.toList[0]? = some t := by rw [ht]; simp
            simpa using this
          obtain ⟨r, w', q1, q2, q3, q4, q5⟩ := clearD_sound (P := P) (N := fun i => i = id) hH rx h1 t0 a0 o.type
          exact .value (by rw [hexec]; simp [builtin, q1]) q2 (one q3 q4 q5)
        · cases hs
      case panic =>
        obtain ⟨x, l, hxy, hs⟩ := head1_some hs
        obtain ⟨⟨t, v, hx⟩, rfl⟩ := panA_some hs
        obtain ⟨vx, a0, rx⟩ := args0 hxy
        have rx' := rx
        rw [hx] at rx'
        simp only [RepV] at rx'
        obtain ⟨u, hu, _⟩ := rx'
        have : (c.args.map a.eval).getD 0 .nilIface = vx := by rw [Array.getD_eq_getD_getElem?, a0]; rfl
        exact .pan (u := vx) (by rw [hexec]; simp only [builtin, this, hu]; simp [Instr.panic]) rx
      case recover.refl => exact .recover (by rw [hexec]; rfl)
    · cases hs

end Go.Proofs.YtckcgijepiejlaaGreat.Ae
