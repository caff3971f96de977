/-
  A REGION IN THE ORDER OF ITS TEXT: the machine's steps.
-/
import Derived.Test.YtckcgijepiejlaaGreatAeStep
namespace Go.Proofs.YtckcgijepiejlaaGreat.Ae
open Go
set_option linter.unusedVariables false
set_option linter.unusedSimpArgs false
set_option linter.unnecessarySimpa false
variable {P : Program}

/-- the deferred calls of a frame; the marks of its loops over functions are not told -/
inductive RepD (E : Env) : List (AV × List AV) → List Deferred → Prop where
  | nil : RepD E [] []
  | cons {d : AV × List AV} {e : Deferred} {ds : List (AV × List AV)} {es : List Deferred} (h : ∃ g x y p q r, d.1 = .fn (.func g) x y ∧ e = { target := .fn (.func g) q, args := p ++ r } ∧ RepL E x p.toList ∧ RepL E y q.toList ∧ RepL E d.2 r.toList) (t : RepD E ds es) : RepD E (d :: ds) (e :: es)
  | col {b : Nat} {ds : List (AV × List AV)} {es : List Deferred} (t : RepD E ds es) : RepD E ds ({ target := .collected b, args := #[] } :: es)
theorem RepD.mono {E E' : Env} (hE : E.le E') {ds : List (AV × List AV)} {es : List Deferred} (h : RepD E ds es) : RepD E' ds es := by
  induction h with
  | nil => exact .nil
  | cons h _ ih =>
    obtain ⟨g, x, y, p, q, r, h1, h2, h3, h4, h5⟩ := h
    exact .cons ⟨g, x, y, p, q, r, h1, h2, h3.mono hE, h4.mono hE, h5.mono hE⟩ ih
  | col _ ih => exact .col ih

/-- the blocks of the marks -/
def colBlocks (es : List Deferred) : List Nat := es.filterMap fun d => match d.target with | .collected b => some b | _ => none
theorem colBlocks_fn (f : Fn) (q args : Array Value) (es : List Deferred) : colBlocks ({ target := .fn f q, args := args } :: es) = colBlocks es := by simp [colBlocks]
theorem colBlocks_col (b : Nat) (es : List Deferred) : colBlocks ({ target := .collected b, args := #[] } :: es) = b :: colBlocks es := by simp [colBlocks]

/-- The marks' blocks hold no calls, are no rows', and are newer than the frame. -/
structure ColOk (lo : Nat) (E : Env) (g : Nat → Option Row) (es : List Deferred) (w : World) : Prop where
  nodup : (colBlocks es).Nodup
  ok : ∀ b ∈ colBlocks es, lo ≤ b ∧ w.heap[b]? = some (.deferred (some [])) ∧ ∀ id r e, g id = some r → E.ids id = some e → e.blk ≠ b
theorem ColOk.fr {lo : Nat} {N : Nat → Prop} {E E' : Env} {g g' : Nat → Option Row} {es : List Deferred} {w w' : World} (h : ColOk lo E g es w) (f : Fr N E g w E' g' w') : ColOk lo E' g' es w' :=
  ⟨h.nodup, fun b hb => by
    obtain ⟨h1, h2, h3⟩ := h.ok b hb
    have hlt := (Array.getElem?_eq_some_iff.1 h2).1
    refine ⟨h1, by rw [f.block b hlt h3]; exact h2, fun id r e hg he heq => ?_⟩
    rcases f.own id r e hg he with h4 | ⟨i0, r0, e0, h4, h5, h6⟩
    · omega
    · exact h3 i0 r0 e0 h4 h5 (h6.trans heq)⟩
theorem ColOk.es {lo : Nat} {E : Env} {g : Nat → Option Row} {es es' : List Deferred} {w : World} (h : ColOk lo E g es w) (he : colBlocks es' = colBlocks es) : ColOk lo E g es' w := ⟨by rw [he]; exact h.nodup, by rw [he]; exact h.ok⟩

/-- a frame's slots; how many blocks there were when it began -/
structure Sz where
  n : Nat
  lo : Nat

/-- the state of a frame -/
structure RepS (P : Program) (z : Sz) (E : Env) (s : St) (a : Act) (w : World) : Prop where
  tm : RepT E s.tmps a.tmps
  size : a.tmps.size = z.n
  defs : RepD E s.defs a.defers
  heap : RepH P E s.h.get w
  fresh : Fresh E s.h.next
  col : ColOk z.lo E s.h.get a.defers w
  lo : z.lo ≤ w.heap.size

/-- what recover() would tell in this frame -/
def Rcv (E : Env) (rcv : Rc) (b : Frame) (cs : List Frame) : Prop :=
  match rcv with
  | .out => b.roundOf = none
  | .rnd => b.roundOf ≠ none
  | .dfr m => b.roundOf = none ∧ b.kind = .deferred ∧ match m with
    | some v => ∃ u c rest, cs = c :: rest ∧ RepV E v u ∧ c.mode = .panicking [{ v := u, recovered := false }]
    | none => recoverD cs = none

def RcvTo (rcv : Rc) (cs : List Frame) (rcv' : Rc) (cs' : List Frame) : Prop :=
  (rcv' = rcv ∧ cs' = cs) ∨ ∃ v c rest u, rcv = .dfr (some v) ∧ rcv' = .dfr none ∧ cs = c :: rest ∧ c.mode = .panicking [{ v := u, recovered := false }] ∧ cs' = { c with mode := .panicking [{ v := u, recovered := true }] } :: rest

theorem RcvTo.refl (rcv : Rc) (cs : List Frame) : RcvTo rcv cs rcv cs := .inl ⟨rfl, rfl⟩
theorem RcvTo.trans {r0 r1 r2 : Rc} {c0 c1 c2 : List Frame} (h : RcvTo r0 c0 r1 c1) (k : RcvTo r1 c1 r2 c2) : RcvTo r0 c0 r2 c2 := by
  rcases h with ⟨rfl, rfl⟩ | ⟨v, c, rest, u, h1, h2, h3, h4, h5⟩
  · exact k
  · rcases k with ⟨rfl, rfl⟩ | ⟨v', c', rest', u', k1, _⟩
    · exact .inr ⟨v, c, rest, u, h1, h2, h3, h4, h5⟩
    · rw [h2] at k1; cases k1
theorem Rcv.to {E E' : Env} (hE : E.le E') {r r' : Rc} {b : Frame} {cs cs' : List Frame} (h : Rcv E r b cs) (k : RcvTo r cs r' cs') : Rcv E' r' b cs' := by
  rcases k with ⟨rfl, rfl⟩ | ⟨v, c, rest, u, h1, h2, h3, h4, h5⟩
  · cases r' with
    | out => exact h
    | rnd => exact h
    | dfr m =>
      cases m with
      | none => exact h
      | some v =>
        obtain ⟨hr, hk, u, c, rest, h1, h2, h3⟩ := h
        exact ⟨hr, hk, u, c, rest, h1, h2.mono hE, h3⟩
  · subst h1 h2 h5
    exact ⟨h.1, h.2.1, by simp [recoverD]⟩
theorem Rcv.none {E : Env} {r : Rc} {b : Frame} {cs : List Frame} (h : Rcv E r b cs) (hr : r ≠ .rnd) : b.roundOf = none := by
  cases r with
  | out => exact h
  | rnd => exact absurd rfl hr
  | dfr m => exact h.1

def OutOk (E : Env) (o : Out) (e : Exit) : Prop :=
  match o with
  | .normal => e = .normal
  | .exit id => e = .exit id
  | .goto l => e = .goto l
  | .ret => e = .ret
  | .panic v => ∃ u, e = .panic [{ v := u, recovered := false }] ∧ RepV E v u

/-- a machine comes to where a piece of code leaves to -/
def ArrR (P : Program) (m : Machine) (b : Frame) (k : List Item) (cs : List Frame) : Exit → Act → World → Prop
  | .normal, a, w => Steps P m (lone (b.atR a k) cs w)
  | .exit id, a, w => ∃ k', exitTo id k' = exitTo id k ∧ Steps P m (lone (b.atR a (.code (.exit id) :: k')) cs w)
  | .ret, a, w => ∃ k', Steps P m (lone (b.atR a (.code .ret :: k')) cs w)
  | .panic chain, a, w => ∃ todo, Steps P m (lone { b.atR a todo with mode := .panicking chain } cs w)
  | .goto _, _, _ => False
  | .outgrown, _, _ => False
theorem ArrR.of_steps {P : Program} {m m₁ : Machine} {b : Frame} {k : List Item} {cs : List Frame} {e : Exit} {a : Act} {w : World} (h : Steps P m m₁) (h' : ArrR P m₁ b k cs e a w) : ArrR P m b k cs e a w := by
  cases e with
  | normal => exact h.trans h'
  | exit id => obtain ⟨k', h1, h2⟩ := h'; exact ⟨k', h1, h.trans h2⟩
  | ret => obtain ⟨k', h2⟩ := h'; exact ⟨k', h.trans h2⟩
  | panic chain => obtain ⟨k', h2⟩ := h'; exact ⟨k', h.trans h2⟩
  | goto l => exact h'
  | outgrown => exact h'

/-- from a machine, where the frame stands in state s, it comes to the end o in state s' -/
def To (P : Program) (z : Sz) (E : Env) (s : St) (w : World) (b : Frame) (k : List Item) (cs : List Frame) (m : Machine) (o : Out) (s' : St) : Prop :=
  ∃ a' cs' w' E' e, ArrR P m b k cs' e a' w' ∧ OutOk E' o e ∧ RepS P z E' s' a' w' ∧ Post P (fun i => s.h.next ≤ i) E s.h w E' s'.h w' ∧ RcvTo s.rcv cs s'.rcv cs'

/-! ### the machine's step at an operation -/
section steps
variable {b : Frame} {a : Act} {k : List Item} {cs : List Frame} {w w' : World} {ops : Array Oper} {i : Nat} {rest : List Nat} {o : Oper}

theorem fin_eq (ho : ops[i]? = some o) (v : Value) : (b.atR a (.inRegion ops (i :: rest) :: k)).finish v = b.atR (a.put o.dst v) (.inRegion ops rest :: k) := by
  rw [Frame.finish_atR, ho]; rfl
theorem step_value (ho : ops[i]? = some o) (hw : Region.wanted o (yielded ops a.tmps) = true) (hsem : o.semAt b.roundOf a.eval = execOp a.eval o) {v : Value} (hr : (execOp a.eval o).run P w = .ok (.value v) w') :
    step P (lone (b.atR a (.inRegion ops (i :: rest) :: k)) cs w) = .next (lone (b.atR (a.put o.dst v) (.inRegion ops rest :: k)) cs w') := by
  have hg := stepGR_op (P := P) (b := b) (k := k) (cs := cs) (w := w) (rest := rest) ho hw
  rw [hsem] at hg
  refine step_lone_go ?_
  rw [hg, ← fin_eq ho]; simp [stepG.apply, hr]
theorem step_unit (ho : ops[i]? = some o) (hw : Region.wanted o (yielded ops a.tmps) = true) (hsem : o.semAt b.roundOf a.eval = execOp a.eval o) (hr : (execOp a.eval o).run P w = .ok .skip w') :
    step P (lone (b.atR a (.inRegion ops (i :: rest) :: k)) cs w) = .next (lone (b.atR (a.put o.dst undef) (.inRegion ops rest :: k)) cs w') := by
  have hg := stepGR_op (P := P) (b := b) (k := k) (cs := cs) (w := w) (rest := rest) ho hw
  rw [hsem] at hg
  refine step_lone_go ?_
  rw [hg, ← fin_eq ho]; simp [stepG.apply, hr]
theorem step_deferOp (ho : ops[i]? = some o) (hw : Region.wanted o (yielded ops a.tmps) = true) (hsem : o.semAt b.roundOf a.eval = execOp a.eval o) {d : Deferred} (hr : (execOp a.eval o).run P w = .ok (.defer d) w') :
    step P (lone (b.atR a (.inRegion ops (i :: rest) :: k)) cs w) = .next (lone (b.atR ({ a with defers := d :: a.defers }.put o.dst undef) (.inRegion ops rest :: k)) cs w') := by
  have hg := stepGR_op (P := P) (b := b) (k := k) (cs := cs) (w := w) (rest := rest) ho hw
  rw [hsem] at hg
  refine step_lone_go ?_
  have : ({ b.atR a (.inRegion ops (i :: rest) :: k) with defers := d :: a.defers } : Frame).finish undef =
      b.atR ({ a with defers := d :: a.defers }.put o.dst undef) (.inRegion ops rest :: k) := by
    have := Frame.finish_atR b { a with defers := d :: a.defers } ops i rest k undef
    rw [ho] at this; exact this
  rw [hg]; simp only [stepG.apply, Sem.runT_eq, hr, GStep.bare_after]
  exact congrArg (fun fr => GStep.go { frame := fr, callers := cs, status := .running, dying := none } w') this
theorem step_roundOp (ho : ops[i]? = some o) (hw : Region.wanted o (yielded ops a.tmps) = true) (hsem : o.semAt b.roundOf a.eval = execOp a.eval o) {l : Nat} {fn : FuncId} {tmps : Array Value} {asg body : Code} (hr : (execOp a.eval o).run P w = .ok (.round l fn tmps asg body) w') :
    step P (lone (b.atR a (.inRegion ops (i :: rest) :: k)) cs w) = .next (lone (Frame.round l fn tmps asg body .normal) (b.atR a (.inRegion ops (i :: rest) :: k) :: cs) w') := by
  have hg := stepGR_op (P := P) (b := b) (k := k) (cs := cs) (w := w) (rest := rest) ho hw
  rw [hsem] at hg
  exact step_lone_go (by rw [hg]; simp [stepG.apply, hr, Frame.atR])
theorem step_enterOp (ho : ops[i]? = some o) (hw : Region.wanted o (yielded ops a.tmps) = true) (hsem : o.semAt b.roundOf a.eval = execOp a.eval o) {f : FuncId} {args : Array Value} (hr : (execOp a.eval o).run P w = .ok (.enter f args) w') :
    step P (lone (b.atR a (.inRegion ops (i :: rest) :: k)) cs w) = .next (lone (Frame.enter P f args .normal) (b.atR a (.inRegion ops (i :: rest) :: k) :: cs) w') := by
  have hg := stepGR_op (P := P) (b := b) (k := k) (cs := cs) (w := w) (rest := rest) ho hw
  rw [hsem] at hg
  exact step_lone_go (by rw [hg]; simp [stepG.apply, hr, Frame.atR])
theorem step_panicOp (ho : ops[i]? = some o) (hw : Region.wanted o (yielded ops a.tmps) = true) (hsem : o.semAt b.roundOf a.eval = execOp a.eval o) {v : Value} (hr : (execOp a.eval o).run P w = .halt (.panic v) w') :
    step P (lone (b.atR a (.inRegion ops (i :: rest) :: k)) cs w) = .next (lone { b.atR a (.inRegion ops (i :: rest) :: k) with mode := .panicking [{ v, recovered := false }] } cs w') := by
  have hg := stepGR_op (P := P) (b := b) (k := k) (cs := cs) (w := w) (rest := rest) ho hw
  rw [hsem] at hg
  refine step_lone_go ?_
  rw [hg, ← Frame.raise_atR]; simp [stepG.apply, hr]
theorem step_recoverOp (ho : ops[i]? = some o) (hw : Region.wanted o (yielded ops a.tmps) = true) (hsem : o.semAt b.roundOf a.eval = execOp a.eval o) (hro : b.roundOf = none) (hk : b.kind = .deferred) (hr : (execOp a.eval o).run P w = .ok .recover w') :
    step P (lone (b.atR a (.inRegion ops (i :: rest) :: k)) cs w) = match recoverD cs with
      | some (v, cs') => .next (lone (b.atR (a.put o.dst v) (.inRegion ops rest :: k)) cs' w')
      | none => .next (lone (b.atR (a.put o.dst .nilIface) (.inRegion ops rest :: k)) cs w') := by
  have hg := stepGR_op (P := P) (b := b) (k := k) (cs := cs) (w := w) (rest := rest) ho hw
  rw [hsem] at hg
  have htr := tryRecover_deferred (fr := b.atR a (.inRegion ops (i :: rest) :: k)) hk cs
  cases hrec : recoverD cs with
  | none =>
    refine step_lone_go ?_
    rw [hrec] at htr
    rw [hg, ← fin_eq ho]
    simp only [Frame.atR, hro] at htr ⊢
    simp [stepG.apply, hr, htr]
  | some p =>
    obtain ⟨v, cs'⟩ := p
    refine step_lone_go ?_
    rw [hrec] at htr
    rw [hg, ← fin_eq ho]
    simp only [Frame.atR, hro] at htr ⊢
    simp [stepG.apply, hr, htr]
end steps

/-! ### is it wanted? -/
def boolOf : Value → Option Bool
  | .bool b => some b
  | _ => none
noncomputable def setT (tm : Tm) (dst : Option Tmp) (v : AV) : Tm :=
  match dst with
  | some d => Tr.set tm d v
  | none => tm

theorem boolIs_sound {E : Env} {want : Bool} {x : AV} {v : Value} (hx : RepV E x v) {r : Bool} (h : boolIs want x = some r) : (boolOf v == some want) = true ↔ r = true := by
  cases x <;> simp only [boolIs] at h <;> try cases h
  case bool.refl b =>
    simp only [RepV] at hx; subst hx
    cases b <;> cases want <;> simp [boolOf]
  case tup vs =>
    split at h
    · rename_i e; cases e
    · cases h
      simp only [RepV] at hx
      obtain ⟨x, rfl, _⟩ := hx
      simp [boolOf]
    · cases h

theorem wantedA_sound {E : Env} {tm : Tm} {a : Act} {ops : Array Oper} {o : Oper} {r : Bool} (hg : ∀ j want d, o.guard = some (j, want) → (ops[j]?).bind (·.dst) = some d → d < a.tmps.size ∧ RepV E (tm.val d) (a.tmps.getD d undef)) (h : wantedA ops.toList tm o.guard = some r) : Region.wanted o (yielded ops a.tmps) = r := by
  unfold wantedA at h
  unfold Region.wanted
  cases hgd : o.guard with
  | none => rw [hgd] at h; cases h; rfl
  | some p =>
    obtain ⟨j, want⟩ := p
    rw [hgd] at h
    simp only [wantedG] at h
    simp only
    have hopt : (ops.toList[j]?).bind (·.dst) = (ops[j]?).bind (·.dst) := by simp
    rw [hopt] at h
    cases hd : (ops[j]?).bind (·.dst) with
    | none =>
      rw [hd] at h; cases h
      simp [yielded, hd]
    | some d =>
      rw [hd] at h
      simp only at h
      obtain ⟨hlt, hr⟩ := hg j want d hgd hd
      have := boolIs_sound hr h
      have e : a.tmps.getD d undef = a.tmps[d] := by simp [Array.getD, hlt]
      rw [e] at this
      have hy : yielded ops a.tmps j = boolOf a.tmps[d] := by
        simp only [yielded, hd, Option.bind_some, Array.getElem?_eq_getElem hlt]
        cases a.tmps[d] <;> rfl
      rw [hy]
      cases r with
      | true => exact this.2 rfl
      | false =>
        cases hb : (boolOf a.tmps[d] == some want) with
        | false => rfl
        | true => exact absurd (this.1 hb) (by simp)

theorem putK_some {α : Type} {tm : Tm} {dst : Option Tmp} {v : AV} {k : Tm → Option α} {y : α} (h : putK tm dst v k = some y) : k (setT tm dst v) = some y := by
  unfold putK at h
  cases dst with
  | none => exact h
  | some d => simp only [forceTr_eq] at h; exact h

theorem repT_put {E : Env} {tm : Tm} {a : Act} (h : RepT E tm a.tmps) {dst : Option Tmp} (hd : ∀ d, dst = some d → d < a.tmps.size) {x : AV} {v : Value} (hv : RepV E x v) :
    RepT E (setT tm dst x) (a.put dst v).tmps := by
  cases dst with
  | none => exact h
  | some d => exact h.put (hd d rfl) hv
theorem put_size {a : Act} {dst : Option Tmp} {v : Value} : (a.put dst v).tmps.size = a.tmps.size := by
  cases dst <;> simp [Act.put]
theorem put_defers {a : Act} {dst : Option Tmp} {v : Value} : (a.put dst v).defers = a.defers := by
  cases dst <;> simp [Act.put]

/-! ### the region -/
theorem kindA_cases (P : Program) (o : Op) : kindA P o = 0 ∨ kindA P o = 1 ∨ kindA P o = 2 := by
  cases o <;> simp only [kindA] <;> try (simp; done)
  case convert =>
    cases isSlice (P.underlying _) <;> simp
  case call c =>
    split
    · rename_i b _
      cases b <;> simp [kindB]
    · simp


def srOut : SR → Out × St
  | .go s => (.normal, s)
  | .pan v s => (.panic v, s)

theorem Post.refl {N : Nat → Prop} {E : Env} {h : AH} {w : World} (h1 : RepH P E h.get w) (h2 : Fresh E h.next) : Post P N E h w E h w := ⟨h1, Fr.refl _ _ _ _, Nat.le_refl _, h2⟩
theorem Post.mono {N M : Nat → Prop} {E E' : Env} {h h' : AH} {w w' : World} (p : Post P M E h w E' h' w') (hn : ∀ i, M i → N i) : Post P N E h w E' h' w' := ⟨p.rep, p.fr.mono hn, p.next, p.fresh⟩

theorem To.of_steps {z : Sz} {E : Env} {s : St} {w : World} {b : Frame} {k : List Item} {cs : List Frame} {m m' : Machine} {o : Out} {s' : St} (h : Steps P m m') (t : To P z E s w b k cs m' o s') : To P z E s w b k cs m o s' := by
  obtain ⟨a', cs', w', E', e, h1, h2⟩ := t
  exact ⟨a', cs', w', E', e, .of_steps h h1, h2⟩

/-- one way, and another one behind it -/
theorem To.andThen {z : Sz} {E E1 : Env} {s s1 s2 : St} {w w1 : World} {b : Frame} {k : List Item} {cs cs1 : List Frame} {m : Machine} {o : Out} (p : Post P (fun i => s.h.next ≤ i) E s.h w E1 s1.h w1) (r : RcvTo s.rcv cs s1.rcv cs1) (t : To P z E1 s1 w1 b k cs1 m o s2) : To P z E s w b k cs m o s2 := by
  obtain ⟨a', cs', w', E', e, h1, h2, h3, h4, h5⟩ := t
  exact ⟨a', cs', w', E', e, h1, h2, h3, p.trans (h4.mono fun i hi => Nat.le_trans p.next hi), r.trans h5⟩

theorem RepS.next {N : Nat → Prop} {z : Sz} {E E' : Env} {s : St} {a a' : Act} {w w' : World} (hs : RepS P z E s a w) {h' : AH} (p : Post P N E s.h w E' h' w') {tm : Tm} {rcv : Rc} (ht : RepT E' tm a'.tmps) (hsz : a'.tmps.size = a.tmps.size) (hd : a'.defers = a.defers) : RepS P z E' ⟨tm, s.defs, h', rcv⟩ a' w' :=
  ⟨ht, by rw [hsz]; exact hs.size, by rw [hd]; exact hs.defs.mono p.fr.le, p.rep, p.fresh, by rw [hd]; exact hs.col.fr p.fr, Nat.le_trans hs.lo p.fr.size⟩
theorem RepS.post0 {z : Sz} {E : Env} {s : St} {a : Act} {w : World} (hs : RepS P z E s a w) (N : Nat → Prop) : Post P N E s.h w E s.h w := .refl hs.heap hs.fresh

theorem readK_is (s : St) (dst : Option Tmp) (v : Option AV) : readK s dst v = match v with | some v => putK s.tmps dst v fun t => some (.go ⟨t, s.defs, s.h, s.rcv⟩) | none => none := by cases v <;> rfl
/-- the two ways to tell an operation -/
theorem opA_is {call : CallF} (o : Oper) (s : St) : opA P call o s = opK P call o s (kindA P o.op) := by
  obtain ⟨d, op, ty, pos, af, g⟩ := o
  cases op with
  | convert a b x =>
    show (bif isSlice (P.underlying b) then _ else _) = opK P call _ s (bif isSlice (P.underlying b) then 1 else 0)
    cases isSlice (P.underlying b) <;> rfl
  | call c =>
    obtain ⟨f, args, ts⟩ := c
    cases f with
    | builtin b => cases b <;> rfl
    | _ => rfl
  | _ => rfl
theorem semAt_not {o : Oper} (h : ∀ c, o.op ≠ .defer c) (ro : Option Nat) (ρ : Operand → Value) : o.semAt ro ρ = execOp ρ o := Oper.semAt_eq ro ρ o h
theorem opA_sem {call : CallF} {o : Oper} {s : St} {r : SR} (hr : opA P call o s = some r) {E : Env} {b : Frame} {cs : List Frame} (hrc : Rcv E s.rcv b cs) (ρ : Operand → Value) : o.semAt b.roundOf ρ = execOp ρ o := by
  by_cases h : s.rcv = .rnd
  · refine semAt_not (fun c hc => ?_) _ _
    rw [opA_is] at hr
    rw [hc] at hr
    have e : kindA P (.defer c) = 2 := rfl
    rw [e] at hr
    simp only [opK, forceN_eq, hc, opActA, deferV] at hr
    split at hr
    · rename_i f _
      split at hr
      · simp only [actK, h] at hr; cases hr
      · cases hr
    · cases hr
  · rw [hrc.none h]; rfl

/-- an operation's end: the next state, or a panic -/
theorem opA_sound {call : CallF} (hcall : CallSound P call) {z : Sz} {ops : Array Oper} {i : Nat} {o : Oper} (ho : ops[i]? = some o) (hd : ∀ d, o.dst = some d → d < z.n) {s : St} {r : SR} (hr : opA P call o s = some r)
    {E : Env} {a : Act} {w : World} (hs : RepS P z E s a w) (hw : Region.wanted o (yielded ops a.tmps) = true) {b : Frame} {k : List Item} {cs : List Frame} (hrc : Rcv E s.rcv b cs) (rest : List Nat) :
    match r with
    | .go s' => ∃ a' cs' w' E', Steps P (lone (b.atR a (.inRegion ops (i :: rest) :: k)) cs w) (lone (b.atR a' (.inRegion ops rest :: k)) cs' w') ∧ RepS P z E' s' a' w' ∧ Post P (fun i => s.h.next ≤ i) E s.h w E' s'.h w' ∧ RcvTo s.rcv cs s'.rcv cs'
    | .pan v s' => To P z E s w b k cs (lone (b.atR a (.inRegion ops (i :: rest) :: k)) cs w) (.panic v) s' := by
  have hd' : ∀ d, o.dst = some d → d < a.tmps.size := fun d h => by rw [hs.size]; exact hd d h
  have hT : ∀ x ∈ o.op.operands, RepV E (evo s.tmps x) (a.eval x) := fun x _ => repV_evo hs.tm x
  have hsem := opA_sem hr hrc a.eval
  rw [opA_is] at hr
  unfold opK at hr
  split at hr
  · -- it reads
    rw [readK_is] at hr
    split at hr
    · rename_i v hv
      have hk := putK_some hr
      simp only [Option.some.injEq] at hk
      subst hk
      obtain ⟨u, h1, h2⟩ := opReadA_sound hs.heap hT hv
      exact ⟨_, cs, w, E, .one (step_value ho hw hsem h1), hs.next (hs.post0 fun _ => True) (repT_put hs.tm hd' h2) put_size put_defers, hs.post0 _, .refl _ _⟩
    · cases hr
  · -- it makes a row
    unfold makeK at hr
    split at hr
    · rename_i v c hv
      cases h1 : allOne c with
      | false => rw [h1, cond_false] at hr; cases hr
      | true =>
        rw [h1, cond_true] at hr
        have hk := putK_some hr
        simp only [forceN_eq, forceTr_eq] at hk
        simp only [Option.some.injEq] at hk
        subst hk
        obtain ⟨u, w', E', q1, q2, q3, q4, q5⟩ := opMakeA_sound (N := fun i => i = s.h.next) hs.heap hT (hs.fresh _ (Nat.le_refl _)) rfl hv h1
        have hget : (AH.get ⟨s.h.next + 1, s.h.tr.set s.h.next ⟨0, c, none⟩⟩) = gset s.h.get s.h.next ⟨0, c, none⟩ := funext fun m => by
          show (s.h.tr.set s.h.next ⟨0, c, none⟩).get m = _
          rw [Tr.get_set]; rfl
        have hfresh : Fresh E' (s.h.next + 1) := fun id hid => by
          cases he : E'.ids id with
          | none => rfl
          | some e =>
            have := q4.new id (hs.fresh id (by omega)) (by rw [he]; simp)
            omega
        have p : Post P (fun i => s.h.next ≤ i) E s.h w E' ⟨s.h.next + 1, s.h.tr.set s.h.next ⟨0, c, none⟩⟩ w' := by
          refine ⟨?_, ?_, ?_, hfresh⟩
          · rw [hget]; exact q3
          · rw [hget]; exact q4.mono fun i hi => by omega
          · simp only; omega
        exact ⟨_, cs, w', E', .one (step_value ho hw hsem q1), hs.next p (repT_put (hs.tm.mono q4.le) hd' q2) put_size put_defers, p, .refl _ _⟩
    · cases hr
  · -- it acts
    rename_i h0 h1
    simp only [forceN_eq] at hr
    unfold actK at hr
    have hF : Fresh E (s.h.next + 1) := fun id hid => hs.fresh id (by omega)
    have hH : RepH P E (AH.get ⟨s.h.next + 1, s.h.tr⟩) w := hs.heap
    have conv : ∀ {E' : Env} {h' : AH} {w' : World}, Post P (fun i => i = s.h.next ∨ s.h.next + 1 ≤ i) E ⟨s.h.next + 1, s.h.tr⟩ w E' h' w' → Post P (fun i => s.h.next ≤ i) E s.h w E' h' w' :=
      fun p => ⟨p.rep, p.fr.mono fun i hi => by omega, by have := p.next; simp only at this; omega, p.fresh⟩
    cases hact : opActA P call ⟨s.h.next + 1, s.h.tr⟩ s.tmps s.h.next o.op with
    | none => rw [hact] at hr; cases hr
    | some st =>
      rw [hact] at hr
      have hok := opActA_sound hcall hH hF hT (hs.fresh _ (Nat.le_refl _)) (by simp only; omega) hact
      cases hok with
      | value q1 q2 q3 =>
        rename_i v h' u E' w'
        simp only at hr
        have hk := putK_some hr
        simp only [Option.some.injEq] at hk
        subst hk
        have p := conv q3
        exact ⟨_, cs, w', E', .one (step_value ho hw hsem q1), hs.next p (repT_put (hs.tm.mono p.fr.le) hd' q2) put_size put_defers, p, .refl _ _⟩
      | skip q1 q3 =>
        rename_i h' E' w'
        simp only at hr
        have hk := putK_some hr
        simp only [Option.some.injEq] at hk
        subst hk
        have p := conv q3
        exact ⟨_, cs, w', E', .one (step_unit ho hw hsem q1), hs.next p (repT_put (hs.tm.mono p.fr.le) hd' (repV_undef E')) put_size put_defers, p, .refl _ _⟩
      | enter q1 q2 q3 =>
        rename_i rr f args
        obtain ⟨e, w', fr, hR, hcomes, hfn, hleave⟩ := q2 (b.atR a (.inRegion ops (i :: rest) :: k) :: cs)
        cases rr with
        | val v h' =>
          cases q3
          simp only at hr
          have hk := putK_some hr
          simp only [Option.some.injEq] at hk; subst hk
          obtain ⟨u, E', rfl, q4, q5⟩ := hR
          have p := conv q5
          refine ⟨_, cs, w', E', ?_, hs.next p (repT_put (hs.tm.mono p.fr.le) hd' q4) put_size put_defers, p, .refl _ _⟩
          refine .head (step_enterOp ho hw hsem q1) (Steps.trans hcomes (.one ?_))
          rw [← fin_eq ho]; exact step_leave_returned hleave
        | pan v h' =>
          cases q3
          simp only at hr
          cases hr
          obtain ⟨u, E', rfl, q4, q5⟩ := hR
          have p := conv q5
          refine ⟨a, cs, w', E', .panic [{ v := u, recovered := false }], ⟨.inRegion ops (i :: rest) :: k, ?_⟩, ⟨u, rfl, q4⟩, hs.next p (hs.tm.mono p.fr.le) rfl rfl, p, .refl _ _⟩
          refine .head (step_enterOp ho hw hsem q1) (Steps.trans hcomes (.one ?_))
          rw [← Frame.raise_atR]; exact step_leave_panicked hleave
      | round q1 q2 q3 =>
        rename_i rr l fn tmps asg body
        obtain ⟨e, w', hR, hsteps⟩ := q2 (b.atR a (.inRegion ops (i :: rest) :: k)) cs
        cases rr with
        | val v h' =>
          cases q3
          simp only at hr
          have hk := putK_some hr
          simp only [Option.some.injEq] at hk; subst hk
          obtain ⟨u, E', rfl, q4, q5⟩ := hR
          have p := conv q5
          refine ⟨_, cs, w', E', ?_, hs.next p (repT_put (hs.tm.mono p.fr.le) hd' q4) put_size put_defers, p, .refl _ _⟩
          refine .head (step_roundOp ho hw hsem q1) ?_
          rw [← fin_eq ho]; exact hsteps
        | pan v h' =>
          cases q3
          simp only at hr
          cases hr
          obtain ⟨u, E', rfl, q4, q5⟩ := hR
          have p := conv q5
          refine ⟨a, cs, w', E', .panic [{ v := u, recovered := false }], ⟨.inRegion ops (i :: rest) :: k, ?_⟩, ⟨u, rfl, q4⟩, hs.next p (hs.tm.mono p.fr.le) rfl rfl, p, .refl _ _⟩
          refine .head (step_roundOp ho hw hsem q1) ?_
          rw [← Frame.raise_atR]; exact hsteps
      | pan q1 q2 =>
        rename_i v u
        simp only at hr
        cases hr
        have p : Post P (fun i => s.h.next ≤ i) E s.h w E ⟨s.h.next + 1, s.h.tr⟩ w := ⟨hH, Fr.refl _ _ _ _, by simp only; omega, hF⟩
        exact ⟨a, cs, w, E, .panic [{ v := u, recovered := false }], ⟨_, .one (step_panicOp ho hw hsem q1)⟩, ⟨u, rfl, q2⟩, hs.next p hs.tm rfl rfl, p, .refl _ _⟩
      | defer q1 q2 =>
        rename_i d e
        simp only at hr
        have hr : putK s.tmps o.dst undefA (fun t => some (SR.go ⟨t, d :: s.defs, s.h, s.rcv⟩)) = some r := by
          cases hrv : s.rcv <;> rw [hrv] at hr <;> first | (cases hr; done) | exact hr
        have hk := putK_some hr
        simp only [Option.some.injEq] at hk
        subst hk
        refine ⟨_, cs, w, E, .one (step_deferOp ho hw hsem q1), ⟨repT_put (a := { a with defers := e :: a.defers }) hs.tm hd' (repV_undef E), by rw [put_size]; exact hs.size, by rw [put_defers]; exact .cons q2 hs.defs, hs.heap, hs.fresh, ?_, hs.lo⟩, hs.post0 _, .refl _ _⟩
        rw [put_defers]
        obtain ⟨g, x, y, p, q, r', _, rfl, _⟩ := q2
        exact hs.col.es (colBlocks_fn _ _ _ _)
      | recover q1 =>
        simp only at hr
        unfold recK at hr
        split at hr
        · rename_i v hv
          have hk := putK_some hr
          simp only [Option.some.injEq] at hk
          subst hk
          rw [hv] at hrc
          obtain ⟨hro, hkd, u, c, rs, rfl, q2, q3⟩ := hrc
          have hst := step_recoverOp (rest := rest) (k := k) (cs := c :: rs) ho hw hsem hro hkd q1
          have hrec : recoverD (c :: rs) = some (u, { c with mode := .panicking [{ v := u, recovered := true }] } :: rs) := by simp [recoverD, q3]
          rw [hrec] at hst
          exact ⟨_, _, w, E, .one hst, hs.next (hs.post0 fun _ => True) (repT_put hs.tm hd' q2) put_size put_defers, hs.post0 _, .inr ⟨v, c, rs, u, hv, rfl, rfl, q3, rfl⟩⟩
        · rename_i hv
          have hk := putK_some hr
          simp only [Option.some.injEq] at hk
          subst hk
          rw [hv] at hrc
          obtain ⟨hro, hkd, q2⟩ := hrc
          have hst := step_recoverOp (rest := rest) (k := k) (cs := cs) ho hw hsem hro hkd q1
          rw [q2] at hst
          exact ⟨_, _, w, E, .one hst, hs.next (hs.post0 fun _ => True) (repT_put hs.tm hd' (by simp only [RepV])) put_size put_defers, hs.post0 _, .inl ⟨hv.symm, rfl⟩⟩
        · cases hr

/-- every guard names an operation with a slot of its own -/
theorem seqA_sound {call : CallF} (hcall : CallSound P call) {z : Sz} {ops : Array Oper} (hd : opsDst z.n ops) : ∀ (l : List Oper) (i : Nat), ops.toList.drop i = l → ∀ {s : St} {r : SR}, seqA P call ops.toList l s = some r →
    ∀ {E : Env} {a : Act} {w : World}, RepS P z E s a w → ∀ {b : Frame} {k : List Item} {cs : List Frame}, Rcv E s.rcv b cs →
    To P z E s w b k cs (lone (b.atR a (.inRegion ops (List.range' i (ops.size - i)) :: k)) cs w) (srOut r).1 (srOut r).2
  | [], i, hl, s, r, hr, E, a, w, hs, b, k, cs, hrc => by
    have e : seqA P call ops.toList [] s = some (.go s) := rfl
    rw [e] at hr; cases hr
    have : ops.size - i = 0 := by
      have := congrArg List.length hl
      simp at this; omega
    rw [this]
    exact ⟨a, cs, w, E, .normal, .one stepR_region_end, rfl, hs, .refl hs.heap hs.fresh, .refl _ _⟩
  | o :: l, i, hl, s, r, hr, E, a, w, hs, b, k, cs, hrc => by
    have hlt : i < ops.size := by
      have := congrArg List.length hl
      simp at this; omega
    have ho : ops[i]? = some o := by
      have : (ops.toList.drop i)[0]? = some o := by rw [hl]; rfl
      rw [List.getElem?_drop] at this
      simpa using this
    have hl' : ops.toList.drop (i + 1) = l := by
      have : (ops.toList.drop i).drop 1 = l := by rw [hl]; rfl
      rwa [List.drop_drop] at this
    have hrange : List.range' i (ops.size - i) = i :: List.range' (i + 1) (ops.size - (i + 1)) := by
      obtain ⟨m, hm⟩ : ∃ m, ops.size - i = m + 1 := ⟨ops.size - i - 1, by omega⟩
      rw [hm, List.range'_succ]
      congr 1
      congr 1
      omega
    have e : seqA P call ops.toList (o :: l) s = wantK (wantedA ops.toList s.tmps o.guard) o s (opA P call o s) (seqA P call ops.toList l) := rfl
    rw [e] at hr
    have hg : ∀ j want d, o.guard = some (j, want) → (ops[j]?).bind (·.dst) = some d → d < a.tmps.size ∧ RepV E (s.tmps.val d) (a.tmps.getD d undef) := by
      intro j want d _ hjd
      refine ⟨?_, hs.tm d⟩
      rw [hs.size]
      cases hj : ops[j]? with
      | none => rw [hj] at hjd; cases hjd
      | some oj => rw [hj] at hjd; exact hd j oj hj d hjd
    rw [hrange]
    unfold wantK at hr
    split at hr
    · rename_i hw
      have hw := wantedA_sound hg hw
      unfold thenK at hr
      split at hr
      · rename_i s1 hop
        obtain ⟨a', cs', w', E', q1, q2, q3, q4⟩ := opA_sound hcall ho (hd i o ho) hop hs hw hrc (k := k) (List.range' (i + 1) (ops.size - (i + 1)))
        exact .of_steps q1 (.andThen q3 q4 (seqA_sound hcall hd l (i + 1) hl' hr q2 (hrc.to q3.fr.le q4)))
      · rename_i v s1 hop
        cases hr
        exact opA_sound hcall ho (hd i o ho) hop hs hw hrc (k := k) (List.range' (i + 1) (ops.size - (i + 1)))
      · cases hr
    · rename_i hw
      have hw := wantedA_sound hg hw
      have hk := putK_some hr
      have hst := stepR_op_skip (P := P) (b := b) (a := a) (k := k) (cs := cs) (w := w) (ops := ops) (i := i) (rest := List.range' (i + 1) (ops.size - (i + 1))) (by simp [ho, hw])
      rw [ho] at hst
      simp only [Option.bind_some] at hst
      refine .of_steps (.one hst) ?_
      have hs' : RepS P z E ⟨setT s.tmps o.dst undefA, s.defs, s.h, s.rcv⟩ (a.put o.dst undef) w :=
        hs.next (hs.post0 fun _ => True) (repT_put hs.tm (fun d h => by rw [hs.size]; exact hd i o ho d h) (repV_undef E)) put_size put_defers
      exact .andThen (s1 := ⟨_, s.defs, s.h, s.rcv⟩) (.refl hs.heap hs.fresh) (.refl _ _) (seqA_sound hcall hd l (i + 1) hl' hk hs' hrc)
    · cases hr

end Go.Proofs.YtckcgijepiejlaaGreat.Ae
