/-
  A REGION THAT DRAWS ITS ORDER: whatever order the tape draws, it comes to what the evaluator tells.
-/
import Derived.Test.YtckcgijepiejlaaGreatAeDraw2
namespace Go.Proofs.YtckcgijepiejlaaGreat.Ae
open Go
set_option linter.unusedVariables false
set_option linter.unusedSimpArgs false
set_option linter.unnecessarySimpa false
variable {P : Program}

/-- where the operations of a set S are done: the machine's state -/
structure DInv (P : Program) (ops : Array Oper) (ds : Nat → Dr) (z : Sz) (base : Nat) (s : St) (E0 : Env) (w0 : World) (S : Nat → Bool) (E : Env) (a : Act) (w : World) : Prop where
  closed : Closed ops S
  tm : ∀ i, i ≤ ops.size → ∀ t, (∀ j o, ops[j]? = some o → o.dst = some t → (S j = true ↔ j < i)) → RepV E ((ds i).tmps.val t) (a.tmps.getD t undef)
  size : a.tmps.size = z.n
  defs : RepD E s.defs a.defers
  heap : RepH P E (rowsOf S (ds ops.size).made (latest S (ds 0).h0 (ds ops.size).hist)) w
  fr : Fr (fun i => base ≤ i) E0 s.h.get w0 E (rowsOf S (ds ops.size).made (latest S (ds 0).h0 (ds ops.size).hist)) w
  free : ∀ j, j < ops.size → S j = false → E.ids (base + j) = none
  fresh : Fresh E (latest S (ds 0).h0 (ds ops.size).hist).next
  next : base + ops.size ≤ (latest S (ds 0).h0 (ds ops.size).hist).next
  col : ColOk z.lo E (rowsOf S (ds ops.size).made (latest S (ds 0).h0 (ds ops.size).hist)) a.defers w
  lo : z.lo ≤ w.heap.size

section step
variable {call : CallF} {ops : Array Oper} {base : Nat} {z : Sz} {ds : Nat → Dr} {s : St} {E0 : Env} {w0 : World} {S : Nat → Bool} {E : Env} {a : Act} {w : World}

/-- the slots behind an operation -/
theorem DInv.tm_put (hg : DrawGood P ops) (R : Run P call ops base ds) (I : DInv P ops ds z base s E0 w0 S E a w) {i : Nat} {o : Oper} (ho : ops[i]? = some o) (hi : S i = false) (hdst : ∀ d, o.dst = some d → d < z.n)
    {v : AV} {u : Value} {E' : Env} (hle : E.le E') (hv : RepV E' v u) (ht : (ds (i + 1)).tmps = setT (ds i).tmps o.dst v) :
    ∀ j, j ≤ ops.size → ∀ t, (∀ k o, ops[k]? = some o → o.dst = some t → ((k == i || S k) = true ↔ k < j)) → RepV E' ((ds j).tmps.val t) ((a.put o.dst u).tmps.getD t undef) := by
  intro j hj t hw
  by_cases hd : o.dst = some t
  · have hij : i < j := (hw i o ho hd).1 (by simp)
    have hno : ∀ k o', i + 1 ≤ k → k < j → ops[k]? = some o' → o'.dst ≠ some t := by
      intro k o' h1 h2 h3 h4
      have hk := (hw k o' h3 h4).2 h2
      have hki : (k == i) = false := by simp; omega
      rw [hki, Bool.false_or] at hk
      have hb := tmp_order hg h3 (t := t) (by simp [tnames, h4]) ho hd (by omega)
      rw [Nat.max_eq_right (by omega), Nat.min_eq_left (by omega)] at hb
      have := Closed.bit hg I.closed hk hb
      rw [hi] at this; cases this
    rw [R.still j (by omega) hj hno, ht, hd, setT_eq]
    have hlt : t < a.tmps.size := by rw [I.size]; exact hdst t hd
    simpa [Act.put, Array.getD, hlt] using hv
  · have h1 := I.tm j hj t fun k o' h3 h4 => by
      have hki : k ≠ i := fun e => by subst e; rw [ho] at h3; cases h3; exact hd h4
      have := hw k o' h3 h4
      have e : (k == i) = false := by simpa using hki
      rw [e, Bool.false_or] at this
      exact this
    have h2 : (a.put o.dst u).tmps.getD t undef = a.tmps.getD t undef := by
      cases hdd : o.dst with
      | none => rfl
      | some d =>
        have : d ≠ t := fun e => hd (by rw [hdd, e])
        simp [Act.put, Array.getElem?_setIfInBounds_ne this]
    rw [h2]
    exact h1.mono hle

theorem DInv.closed_put (I : DInv P ops ds z base s E0 w0 S E a w) {i : Nat} {o : Oper} (ho : ops[i]? = some o) (hr : ∀ e ∈ o.after, Region.binds .any e = true → S e.on = true) : Closed ops (fun k => k == i || S k) := by
  intro j oj hoj hj e he hb
  simp only [Bool.or_eq_true, beq_iff_eq] at hj ⊢
  rcases hj with rfl | hj
  · rw [ho] at hoj; cases hoj
    exact .inr (hr e he hb)
  · exact .inr (I.closed j oj hoj hj e he hb)

/-- an operation that is done, of a region that draws -/
theorem DInv.step (hcall : CallSound P call) (hg : DrawGood P ops) (hd : opsDst z.n ops) (R : Run P call ops base ds) (hm0 : (ds 0).made = []) (hh0 : (ds 0).hist = []) (I : DInv P ops ds z base s E0 w0 S E a w)
    {i : Nat} {o : Oper} (ho : ops[i]? = some o) (hi : S i = false) (hr : ∀ e ∈ o.after, Region.binds .any e = true → S e.on = true) {b : Frame} {k : List Item} {cs : List Frame} (rest : List Nat) :
    ∃ a' w' E', Steps P (lone (b.atR a (.inRegion ops (i :: rest) :: k)) cs w) (lone (b.atR a' (.inRegion ops rest :: k)) cs w') ∧ DInv P ops ds z base s E0 w0 (fun k => k == i || S k) E' a' w' := by
  have hlt : i < ops.size := (Array.getElem?_eq_some_iff.1 ho).1
  have hbits : ∀ k, bit ops i k = true → S k = true := fun k hk => Closed.bits hg I.closed i k o ho hr hk
  have hdst := hd i o ho
  have hC := I.closed_put ho hr
  -- who writes a slot that it names
  have named : ∀ t, t ∈ tnames o → ∀ j oj, ops[j]? = some oj → oj.dst = some t → (S j = true ↔ j < i) := by
    intro t ht j oj hoj hjd
    by_cases e : j = i
    · subst e; rw [hi]; simp
    · have hb := tmp_order hg ho ht hoj hjd e
      rcases Nat.lt_or_ge j i with h | h
      · rw [Nat.max_eq_right (by omega), Nat.min_eq_left (by omega)] at hb
        simp [hbits j hb, h]
      · rw [Nat.max_eq_left (by omega), Nat.min_eq_right (by omega)] at hb
        have hSj : S j = false := by
          cases h' : S j with
          | false => rfl
          | true => have := Closed.bit hg I.closed h' hb; rw [hi] at this; cases this
        rw [hSj]; simp; omega
  have hT : ∀ x ∈ o.op.operands, RepV E (evo (ds i).tmps x) (a.eval x) := by
    intro x hx
    cases x with
    | tmp t =>
      refine I.tm i (by omega) t (named t ?_)
      exact List.mem_append_right _ (List.mem_filterMap.2 ⟨.tmp t, by simpa using hx, rfl⟩)
    | const v => exact repV_toAV E v
    | global g => simp only [evo, Act.eval, RepV]
    | func f => simp only [evo, Act.eval, RepV]; exact ⟨_, #[], #[], rfl, rfl, RepL.nil, RepL.nil⟩
  have hG : ∀ j want d, o.guard = some (j, want) → (ops[j]?).bind (·.dst) = some d → d < a.tmps.size ∧ RepV E ((ds i).tmps.val d) (a.tmps.getD d undef) := by
    intro g want d hgd hgdst
    obtain ⟨⟨e, he, heo, heb⟩, _⟩ := guard_edge hg ho hgd
    have hSg : S g = true := heo ▸ hr e he heb
    have hgi : g < i := heo ▸ edge_lt hg ho e he heb
    cases hog : ops[g]? with
    | none => rw [hog] at hgdst; cases hgdst
    | some og =>
      rw [hog] at hgdst
      simp only [Option.bind_some] at hgdst
      refine ⟨by rw [I.size]; exact hd g og hog d hgdst, I.tm i (by omega) d ?_⟩
      intro j oj hoj hjd
      have hor := guardSole_sound (R.sole i o ho) hgd (by rw [hog]; exact hgdst) hoj hjd
      rcases Nat.lt_trichotomy j g with h | h | h
      · have hb := tmp_order hg hog (t := d) (by simp [tnames, hgdst]) hoj hjd (by omega)
        rw [Nat.max_eq_right (by omega), Nat.min_eq_left (by omega)] at hb
        simp [Closed.bit hg I.closed hSg hb]; omega
      · subst h; simp [hSg, hgi]
      · have hb : bit ops j i = true := hor.resolve_left (by omega)
        have := bit_lt hg j i hb
        have hSj : S j = false := by
          cases h' : S j with
          | false => rfl
          | true => have := Closed.bit hg I.closed h' hb; rw [hi] at this; cases this
        rw [hSj]; simp; omega
  -- what leaves the heap alone
  have quiet : ∀ {v : AV} {u : Value}, (ds (i + 1)).tmps = setT (ds i).tmps o.dst v → (ds (i + 1)).hist = (ds i).hist → (ds (i + 1)).made = (ds i).made → RepV E v u → DInv P ops ds z base s E0 w0 (fun k => k == i || S k) E (a.put o.dst u) w := by
    intro v u ht hh hm hv
    have e1 := R.mute hh0 hlt hh S
    have e2 : rowsOf (fun k => k == i || S k) (ds ops.size).made = rowsOf S (ds ops.size).made := by
      funext h id
      unfold rowsOf
      rw [madeAt_mute (R.unmade hm0 hlt hm)]
    refine ⟨hC, I.tm_put hg R ho hi hdst .refl hv ht, by rw [put_size]; exact I.size, by rw [Ae.put_defers]; exact I.defs, ?_, ?_, ?_, ?_, ?_, ?_, I.lo⟩
    · rw [e1, e2]; exact I.heap
    · rw [e1, e2]; exact I.fr
    · intro j hj hSj
      simp only [Bool.or_eq_false_iff] at hSj
      exact I.free j hj hSj.2
    · rw [e1]; exact I.fresh
    · rw [e1]; exact I.next
    · rw [e1, e2, Ae.put_defers]; exact I.col
  obtain ⟨l, hl1, hl2⟩ := R.made_le hm0 (i := i) ops.size (by omega) (Nat.le_refl _)
  obtain ⟨hmi1, hmi2⟩ := R.made_at hm0 i (by omega)
  obtain ⟨hmm1, hmm2⟩ := R.made_at hm0 ops.size (Nat.le_refl _)
  have hsub : ∀ {h : AH} {id : Nat} {r : Row}, (addMade (msk ops i) (ds i).made h).get id = some r → rowsOf S (ds ops.size).made h id = some r := by
    intro h id r hr
    rw [addMade_get] at hr
    refine rowsOf_sub hmm2 ?_ hr
    intro p hp hb
    exact ⟨by rw [hl1]; exact List.mem_append_right _ hp, hbits p.1 hb⟩
  have hop := R.op i o ho
  have hreads := hop
  generalize hdi : ds (i + 1) = di at hop
  cases hop with
  | skip hw =>
    have hw := wantedA_sound hG hw
    have hst := stepR_op_skip (P := P) (b := b) (a := a) (k := k) (cs := cs) (w := w) (ops := ops) (i := i) (rest := rest) (by simp [ho, hw])
    rw [ho] at hst
    simp only [Option.bind_some] at hst
    exact ⟨_, w, E, .one hst, quiet (by rw [hdi]) (by rw [hdi]) (by rw [hdi]) (repV_undef E)⟩
  | read hw hrd hm =>
    have hsem := semAt_not (o := o) (fun c hc => by rw [hc] at hrd; cases hrd) b.roundOf a.eval
    have hw := wantedA_sound hG hw
    rw [opReadA_mute (h' := addMade (msk ops i) (ds i).made (latest S (ds 0).h0 (ds ops.size).hist)) hm] at hrd
    obtain ⟨u, h1, h2⟩ := opReadA_sound (I.heap.sub fun id r h => hsub h) hT hrd
    exact ⟨_, w, E, .one (step_value ho hw hsem h1), quiet (by rw [hdi]) (by rw [hdi]) (by rw [hdi]) h2⟩
  | mread hw hm hb =>
    have hsem := semAt_not (o := o) (fun c hc => by rw [hc] at hm; cases hm) b.roundOf a.eval
    have hw := wantedA_sound hG hw
    have hrd := R.read_at hg hm0 ho hb (by rw [hdi]; exact .head _) (by rw [hdi]) hbits I.closed hi ops.size (by omega) (Nat.le_refl _)
    have hrd := sameO_eq hrd
    obtain ⟨u, h1, h2⟩ := opReadA_sound (I.heap.sub fun id r h => hsub h) hT hrd
    exact ⟨_, w, E, .one (step_value ho hw hsem h1), quiet (by rw [hdi]) (by rw [hdi]) (by rw [hdi]) h2⟩
  | make hw hrm h1 =>
    rename_i v c
    have hsem := semAt_not (o := o) (fun c hc => by rw [hc] at hrm; cases hrm) b.roundOf a.eval
    have hw := wantedA_sound hG hw
    have hfree := I.free i hlt hi
    obtain ⟨u, w', E', q1, q2, q3, q4, q5⟩ := opMakeA_sound (N := fun j => j = base + i) I.heap hT hfree rfl hrm h1
    have e1 := R.mute hh0 hlt (by rw [hdi]) S
    have hp : (i, base + i, (⟨0, c, none⟩ : Row)) ∈ (ds ops.size).made := by
      obtain ⟨l', h3, _⟩ := R.made_le hm0 (i := i + 1) ops.size (by omega) (Nat.le_refl _)
      rw [h3, hdi]; exact List.mem_append_right _ (.head _)
    have hnone : rowsOf S (ds ops.size).made (latest S (ds 0).h0 (ds ops.size).hist) (base + i) = none := by
      cases hh : rowsOf S (ds ops.size).made (latest S (ds 0).h0 (ds ops.size).hist) (base + i) with
      | none => rfl
      | some r => obtain ⟨e, he, _⟩ := I.heap.rows _ r hh; rw [hfree] at he; cases he
    have e2 : rowsOf (fun k => k == i || S k) (ds ops.size).made (latest S (ds 0).h0 (ds ops.size).hist) = gset (rowsOf S (ds ops.size).made (latest S (ds 0).h0 (ds ops.size).hist)) (base + i) ⟨0, c, none⟩ := by
      funext id
      unfold gset
      unfold rowsOf at hnone ⊢
      by_cases e : id = base + i
      · subst e
        rw [if_pos rfl]
        cases hh : AH.get (latest S (ds 0).h0 (ds ops.size).hist) (base + i) with
        | some r => rw [hh] at hnone; cases hnone
        | none =>
          simp only
          exact (madeAt_iff hmm2).2 ⟨_, hp, by simp, rfl, rfl⟩
      · rw [if_neg e]
        cases hh : AH.get (latest S (ds 0).h0 (ds ops.size).hist) id with
        | some r => rfl
        | none =>
          simp only
          have key : ∀ r, madeAt (fun k => k == i || S k) (ds ops.size).made id = some r ↔ madeAt S (ds ops.size).made id = some r := by
            intro r
            rw [madeAt_iff hmm2, madeAt_iff hmm2]
            constructor
            · rintro ⟨p, h2, h3, h4, h5⟩
              refine ⟨p, h2, ?_, h4, h5⟩
              have : p.1 ≠ i := fun e' => e (by rw [← h4, (hmm1 p h2).2, e'])
              have e' : (p.1 == i) = false := by simpa using this
              rw [e', Bool.false_or] at h3; exact h3
            · rintro ⟨p, h2, h3, h4, h5⟩
              exact ⟨p, h2, by simp [h3], h4, h5⟩
          cases hx : madeAt S (ds ops.size).made id with
          | some r => exact (key r).2 hx
          | none =>
            cases hy : madeAt (fun k => k == i || S k) (ds ops.size).made id with
            | none => rfl
            | some r => rw [(key r).1 hy] at hx; cases hx
    refine ⟨_, w', E', .one (step_value ho hw hsem q1), hC, I.tm_put hg R ho hi hdst q4.le q2 (by rw [hdi]), by rw [put_size]; exact I.size, by rw [Ae.put_defers]; exact I.defs.mono q4.le, ?_, ?_, ?_, ?_, ?_, ?_, Nat.le_trans I.lo q4.size⟩
    · rw [e1, e2]; exact q3
    · rw [e1, e2]
      exact I.fr.trans (q4.mono fun j hj => by omega)
    · intro j hj hSj
      simp only [Bool.or_eq_false_iff] at hSj
      have hne : j ≠ i := by simpa using hSj.1
      have h2 := I.free j hj hSj.2
      cases hh : E'.ids (base + j) with
      | none => rfl
      | some e => have := q4.new _ h2 (by rw [hh]; simp); omega
    · rw [e1]
      intro id hid
      have h2 := I.fresh id hid
      cases hh : E'.ids id with
      | none => rfl
      | some e => have := q4.new _ h2 (by rw [hh]; simp); have := I.next; omega
    · rw [e1]; exact I.next
    · rw [e1, e2, Ae.put_defers]; exact I.col.fr q4
  | act hw ha hra hrr =>
    rename_i v h'
    have hsem := semAt_not (o := o) (fun c hc => by
      rw [hc] at hra
      simp only [opActA, deferV] at hra
      split at hra
      · split at hra <;> cases hra
      · cases hra) b.roundOf a.eval
    have hw := wantedA_sound hG hw
    obtain ⟨hin, hlat, hlat'⟩ := R.act_before hg ho ha (by rw [hdi]) hbits I.closed hi ops.size (by omega) (Nat.le_refl _)
    have hH := I.heap
    have hF := I.fresh
    have hN := I.next
    have hfr := I.fr
    have hcol := I.col
    rw [hlat] at hH hF hN hfr hcol
    have hfree := I.free i hlt hi
    have hnx := addMade_next (msk ops i) (ds i).made (ds i).cur
    have hH1 : RepH P E (addMade (msk ops i) (ds i).made (ds i).cur).get w := hH.sub fun id r h => hsub h
    have hok := opActA_sound hcall hH1 (by rw [hnx]; exact hF) hT hfree (by rw [hnx]; omega) hra
    -- the rows behind it
    have hrows : ∀ {E' : Env} {w' : World}, Post P (fun j => j = base + i ∨ (addMade (msk ops i) (ds i).made (ds i).cur).next ≤ j) E (addMade (msk ops i) (ds i).made (ds i).cur) w E' h' w' →
        ∀ id, rowsOf (fun k => k == i || S k) (ds ops.size).made h' id = match h'.get id with | some r => some r | none => rowsOf S (ds ops.size).made (ds i).cur id := by
      intro E' w' p id
      unfold rowsOf
      rw [madeAt_mute (R.unmade hm0 hlt (by rw [hdi]))]
      cases hh : h'.get id with
      | some r => rfl
      | none =>
        simp only
        cases hc : (ds i).cur.get id with
        | none => rfl
        | some r =>
          have : (addMade (msk ops i) (ds i).made (ds i).cur).get id = some r := by
            rw [addMade_get]; unfold rowsOf; rw [hc]
          exact absurd hh (p.fr.kept id (by rw [this]; simp))
    have fin : ∀ {u : Value} {E' : Env} {w' : World}, RepV E' v u → Post P (fun j => j = base + i ∨ (addMade (msk ops i) (ds i).made (ds i).cur).next ≤ j) E (addMade (msk ops i) (ds i).made (ds i).cur) w E' h' w' →
        DInv P ops ds z base s E0 w0 (fun k => k == i || S k) E' (a.put o.dst u) w' := by
      intro u E' w' hv p
      obtain ⟨b1, b2⟩ := RepH.beside hH (fun id r h => hsub h) p.rep p.fr (hrows p)
      refine ⟨hC, I.tm_put hg R ho hi hdst p.fr.le hv (by rw [hdi]), by rw [put_size]; exact I.size, by rw [Ae.put_defers]; exact I.defs.mono p.fr.le, ?_, ?_, ?_, ?_, ?_, ?_, Nat.le_trans I.lo b2.size⟩
      · rw [hlat']; exact b1
      · rw [hlat']
        exact hfr.trans (b2.mono fun j hj => by omega)
      · intro j hj hSj
        simp only [Bool.or_eq_false_iff] at hSj
        have hne : j ≠ i := by simpa using hSj.1
        have h2 := I.free j hj hSj.2
        cases hh : E'.ids (base + j) with
        | none => rfl
        | some e => have := p.fr.new _ h2 (by rw [hh]; simp); omega
      · rw [hlat']; exact p.fresh
      · rw [hlat']; have := p.next; omega
      · rw [hlat', Ae.put_defers]; exact hcol.fr b2
    generalize hst : Stp.next v h' = st at hok
    cases hok with
    | value q1 q2 q3 =>
      cases hst
      exact ⟨_, _, _, .one (step_value ho hw hsem q1), fin q2 q3⟩
    | skip q1 q3 =>
      cases hst
      exact ⟨_, _, _, .one (step_unit ho hw hsem q1), fin (repV_undef _) q3⟩
    | enter q1 q2 q3 =>
      rename_i rr f args
      subst hst
      obtain ⟨e, w', fr, hR, hcomes, hfn, hleave⟩ := q2 (b.atR a (.inRegion ops (i :: rest) :: k) :: cs)
      cases rr with
      | val v' h'' =>
        cases q3
        obtain ⟨u, E', rfl, q4, q5⟩ := hR
        refine ⟨_, w', E', ?_, fin q4 q5⟩
        refine .head (step_enterOp ho hw hsem q1) (Steps.trans hcomes (.one ?_))
        rw [← fin_eq ho]; exact step_leave_returned hleave
      | pan v' h'' => cases q3
    | round q1 q2 q3 =>
      rename_i rr l' fn tmps asg body
      subst hst
      obtain ⟨e, w', hR, hsteps⟩ := q2 (b.atR a (.inRegion ops (i :: rest) :: k)) cs
      cases rr with
      | val v' h'' =>
        cases q3
        obtain ⟨u, E', rfl, q4, q5⟩ := hR
        refine ⟨_, w', E', ?_, fin q4 q5⟩
        refine .head (step_roundOp ho hw hsem q1) ?_
        rw [← fin_eq ho]; exact hsteps
      | pan v' h'' => cases q3
    | pan q1 q2 => cases hst
    | defer q1 q2 => cases hst
    | recover q1 => cases hst
end step

/-! ### the whole region -/
def cnt (S : Nat → Bool) : Nat → Nat
  | 0 => 0
  | k + 1 => cnt S k + if S k = true then 0 else 1
theorem cnt_same {S T : Nat → Bool} : ∀ {m : Nat}, (∀ k, k < m → T k = S k) → cnt T m = cnt S m
  | 0, _ => rfl
  | m + 1, h => by
    simp only [cnt]
    rw [cnt_same fun k hk => h k (by omega), h m (by omega)]
theorem cnt_put {S : Nat → Bool} {i : Nat} (hi : S i = false) : ∀ {m : Nat}, i < m → cnt (fun k => k == i || S k) m + 1 = cnt S m
  | 0, h => by omega
  | m + 1, h => by
    simp only [cnt]
    by_cases e : i = m
    · subst e
      rw [cnt_same (S := S) (T := fun k => k == i || S k) fun k hk => by
        have : (k == i) = false := by simp; omega
        simp [this]]
      simp [hi]
    · have := cnt_put hi (m := m) (by omega)
      have h2 : (m == i) = false := by simp; omega
      simp only [h2, Bool.false_or]
      omega
theorem cnt_zero {S : Nat → Bool} : ∀ {m : Nat}, cnt S m = 0 → ∀ k, k < m → S k = true
  | 0, _, k, h => by omega
  | m + 1, h, k, hk => by
    simp only [cnt] at h
    by_cases e : k = m
    · subst e
      cases hs : S k with
      | true => rfl
      | false => rw [hs] at h; simp at h
    · exact cnt_zero (m := m) (by omega) k (by omega)

theorem draw_go {call : CallF} (hcall : CallSound P call) {ops : Array Oper} {base : Nat} {z : Sz} {ds : Nat → Dr} {s : St} {E0 : Env} {w0 : World} (hg : DrawGood P ops) (hd : opsDst z.n ops) (R : Run P call ops base ds) (hm0 : (ds 0).made = []) (hh0 : (ds 0).hist = [])
    {b : Frame} {k : List Item} {cs : List Frame} : ∀ (fuel t : Nat) (listed : Array Bool) (E : Env) (a : Act) (w : World), listed.size = ops.size → cnt (fun j => listed.getD j false) ops.size ≤ fuel → DInv P ops ds z base s E0 w0 (fun j => listed.getD j false) E a w →
    ∃ S a' w' E', (∀ j, j < ops.size → S j = true) ∧ Steps P (lone (b.atR a (.inRegion ops (Region.linearise.go .any ops fuel t listed []) :: k)) cs w) (lone (b.atR a' k) cs w') ∧ DInv P ops ds z base s E0 w0 S E' a' w'
  | 0, t, listed, E, a, w, hsz, hf, I => by
    refine ⟨_, a, w, E, cnt_zero (by omega), ?_, I⟩
    have : Region.linearise.go .any ops 0 t listed [] = [] := by simp [Region.linearise.go]
    rw [this]
    exact .one stepR_region_end
  | fuel + 1, t, listed, E, a, w, hsz, hf, I => by
    have hgo : Region.linearise.go .any ops (fuel + 1) t listed [] = match (Region.ready .any ops listed)[t % (Region.ready .any ops listed).length]? with
      | some i => Region.linearise.go .any ops fuel (t / (Region.ready .any ops listed).length) (listed.setIfInBounds i true) [i]
      | none => [] := by
      simp only [Region.linearise.go]; rfl
    rw [hgo]
    cases hi : (Region.ready .any ops listed)[t % (Region.ready .any ops listed).length]? with
    | none =>
      have hnil : Region.ready .any ops listed = [] := by
        cases hr : Region.ready .any ops listed with
        | nil => rfl
        | cons x xs =>
          rw [hr] at hi
          have hlt : t % (x :: xs).length < (x :: xs).length := Nat.mod_lt _ (by simp)
          simp at hi
          simp at hlt
          omega
      have hall : ∀ j, j < ops.size → listed.getD j false = true := by
        intro j
        induction j using Nat.strongRecOn with
        | _ j ih =>
          intro hj
          cases hl : listed.getD j false with
          | true => rfl
          | false =>
            have ho : ops[j]? = some ops[j] := by simp
            have hmem : j ∈ Region.ready .any ops listed := by
              rw [mem_ready]
              refine ⟨?_, _, ho, fun e he hb => ?_⟩
              · have hlt : j < listed.size := by omega
                simpa [Array.getD, hlt] using hl
              · have := edge_lt hg ho e he hb
                exact ih e.on this (by omega)
            rw [hnil] at hmem; cases hmem
      exact ⟨_, a, w, E, hall, .one stepR_region_end, I⟩
    | some i =>
      obtain ⟨hun, o, ho, hall⟩ := mem_ready.1 (List.mem_of_getElem? hi)
      have hlt : i < ops.size := (Array.getElem?_eq_some_iff.1 ho).1
      have hSi : listed.getD i false = false := by
        have hlt' : i < listed.size := by omega
        simpa [Array.getD, hlt'] using hun
      have hS' : (fun j => (listed.setIfInBounds i true).getD j false) = fun j => j == i || listed.getD j false := by
        funext j
        by_cases e : j = i
        · subst e
          have hlt' : j < listed.size := by omega
          simp [hlt']
        · rw [getD_set_ne false (Ne.symm e)]
          have : (j == i) = false := by simpa using e
          rw [this, Bool.false_or]
      simp only
      rw [linearise_go_acc, List.reverse_singleton, List.singleton_append]
      obtain ⟨a1, w1, E1, h1, h2⟩ := I.step hcall hg hd R hm0 hh0 ho hSi (fun e he hb => hall e he hb) (b := b) (k := k) (cs := cs) (Region.linearise.go .any ops fuel (t / (Region.ready .any ops listed).length) (listed.setIfInBounds i true) [])
      have hc := cnt_put (S := fun j => listed.getD j false) hSi hlt
      obtain ⟨S, a2, w2, E2, h3, h4, h5⟩ := draw_go hcall hg hd R hm0 hh0 fuel (t / (Region.ready .any ops listed).length) (listed.setIfInBounds i true) E1 a1 w1 (by simp [hsz]) (by rw [hS']; omega) (by rw [hS']; exact h2)
      exact ⟨S, a2, w2, E2, h3, Steps.trans h1 h4, h5⟩

theorem latest_all {S : Nat → Bool} {d : Dr} (h : ∀ p ∈ d.hist, S p.1 = true) : latest S d.h0 d.hist = d.cur := by
  unfold Dr.cur
  cases hh : d.hist with
  | nil => rfl
  | cons p l =>
    simp only [latest]
    rw [if_pos (h p (by rw [hh]; exact .head _))]

theorem draw_sound {call : CallF} (hcall : CallSound P call) (hmix : P.follows .mixedOrders = true) {z : Sz} {id : Nat} {ops : Array Oper} (hd : opsDst z.n ops) (hok : DrawGood P ops) {s : St} {r : SR}
    (hr : (forceN (s.h.next + ops.size) fun n => drawEnd ops.size s (drawA P call ops.toList (Region.before ops).toList s.h.next ops.toList 0 ⟨s.tmps, ⟨n, s.h.tr⟩, [], [], []⟩)) = some r)
    {E : Env} {a : Act} {w : World} (hs : RepS P z E s a w) {b : Frame} {k : List Item} {cs : List Frame} (hrc : Rcv E s.rcv b cs) :
    To P z E s w b k cs (lone (b.atR a (.code (.region id ops true) :: k)) cs w) (srOut r).1 (srOut r).2 := by
  rw [forceN_eq] at hr
  unfold drawEnd at hr
  split at hr
  case h_2 => cases hr
  rename_i d hdr
  cases hr
  obtain ⟨ds, hds0, hdsn, hrun⟩ := drawA_run ops.toList 0 _ d rfl hdr
  have hdsn : ds ops.size = d := by rw [← hdsn]; simp
  have R : Run P call ops s.h.next ds := ⟨fun i o ho => (hrun i o (Nat.zero_le _) ho).1, fun i o ho => (hrun i o (Nat.zero_le _) ho).2⟩
  have hm0 : (ds 0).made = [] := by rw [hds0]
  have hh0 : (ds 0).hist = [] := by rw [hds0]
  have hS0 : (fun j => (Array.replicate ops.size false).getD j false) = fun _ => false := by
    funext j
    by_cases hj : j < ops.size <;> simp [Array.getD, hj]
  have hmf : ∀ (made : List (Nat × Nat × Row)) id, madeAt (fun _ => false) made id = none := by
    intro made id
    induction made with
    | nil => rfl
    | cons p l ih => simp [madeAt, ih]
  have hlf : ∀ l, latest (fun _ => false) (ds 0).h0 l = (ds 0).h0 := by
    intro l
    induction l with
    | nil => rfl
    | cons p l ih => simp [latest, ih]
  have hrows0 : rowsOf (fun _ => false) (ds ops.size).made (latest (fun _ => false) (ds 0).h0 (ds ops.size).hist) = s.h.get := by
    funext id
    rw [hlf]
    unfold rowsOf
    rw [hmf, hds0]
    show (match s.h.get id with | some r => some r | none => none) = _
    cases s.h.get id <;> rfl
  have I0 : DInv P ops ds z s.h.next s E { w with drawn := w.drawn + 1 } (fun j => (Array.replicate ops.size false).getD j false) E a { w with drawn := w.drawn + 1 } := by
    rw [hS0]
    refine ⟨?_, ?_, hs.size, hs.defs, ?_, ?_, ?_, ?_, ?_, ?_, hs.lo⟩
    · intro i o _ h; cases h
    · intro i hi t hw
      have := R.still (t := t) (i := 0) i (by omega) hi fun k o h1 h2 h3 h4 => by have := (hw k o h3 h4).2 h2; cases this
      rw [this, hds0]
      exact hs.tm t
    · rw [hrows0]; exact ⟨fun id r h => by
        obtain ⟨e, h1, h2, h3, h4⟩ := hs.heap.rows id r h
        exact ⟨e, h1, h2, h3.block rfl, h4⟩, hs.heap.inj, hs.heap.fro⟩
    · rw [hrows0]; exact .refl _ _ _ _
    · intro j _ _; exact hs.fresh _ (by omega)
    · rw [hlf, hds0]; exact fun id hid => hs.fresh id (by simp only at hid; omega)
    · rw [hlf, hds0]; exact Nat.le_refl _
    · rw [hrows0]; exact ⟨hs.col.nodup, hs.col.ok⟩
  obtain ⟨S, a', w', E', h1, h2, I⟩ := draw_go hcall hok hd R hm0 hh0 (b := b) (k := k) (cs := cs) ops.size (w.tape w.drawn (.order b.fn id)) (Array.replicate ops.size false) E a { w with drawn := w.drawn + 1 } (by simp) (by
    have : ∀ (T : Nat → Bool) m, cnt T m ≤ m := by
      intro T m
      induction m with
      | zero => exact Nat.le_refl _
      | succ m ih => simp only [cnt]; split <;> omega
    exact this _ _) I0
  have hlast : latest S (ds 0).h0 (ds ops.size).hist = d.cur := by
    rw [← R.h0 ops.size (Nat.le_refl _), latest_all ?_, hdsn]
    intro p hp
    obtain ⟨l, h3, h4⟩ := R.hist_le (i := 0) ops.size (by omega) (Nat.le_refl _)
    rw [h3, hh0, List.append_nil] at hp
    exact h1 p.1 (h4 p hp).2
  have hrows : rowsOf S (ds ops.size).made (latest S (ds 0).h0 (ds ops.size).hist) = (addMade (2 ^ ops.size - 1) d.made d.cur).get := by
    funext id
    rw [hlast, addMade_get, hdsn]
    have hu := (R.made_at hm0 ops.size (Nat.le_refl _))
    rw [hdsn] at hu
    unfold rowsOf
    have : madeAt S d.made = madeAt (fun k => Nat.testBit (2 ^ ops.size - 1) k) d.made := by
      funext id
      have key : ∀ r, madeAt S d.made id = some r ↔ madeAt (fun k => Nat.testBit (2 ^ ops.size - 1) k) d.made id = some r := by
        intro r
        rw [madeAt_iff hu.2, madeAt_iff hu.2]
        constructor
        · rintro ⟨p, q1, q2, q3⟩; exact ⟨p, q1, by rw [Nat.testBit_two_pow_sub_one]; simpa using (hu.1 p q1).1, q3⟩
        · rintro ⟨p, q1, q2, q3⟩; exact ⟨p, q1, h1 p.1 (hu.1 p q1).1, q3⟩
      cases hx : madeAt S d.made id with
      | some r => exact ((key r).1 hx).symm
      | none =>
        cases hy : madeAt (fun k => Nat.testBit (2 ^ ops.size - 1) k) d.made id with
        | none => rfl
        | some r => rw [(key r).2 hy] at hx; cases hx
    rw [this]
  have hnext : (addMade (2 ^ ops.size - 1) d.made d.cur).next = d.cur.next := addMade_next _ _ _
  refine ⟨a', cs, w', E', .normal, .head stepR_region_draw ?_, rfl, ⟨?_, I.size, I.defs, ?_, ?_, by have := I.col; rw [hrows] at this; exact this, I.lo⟩, ⟨?_, ?_, ?_, ?_⟩, .refl _ _⟩
  · have : Region.schedule (P.follows .mixedOrders) ops (w.tape w.drawn (.order b.fn id)) = Region.linearise.go .any ops ops.size (w.tape w.drawn (.order b.fn id)) (Array.replicate ops.size false) [] := by
      rw [hmix]; rfl
    rw [this]
    exact h2
  · intro t
    have := I.tm ops.size (Nat.le_refl _) t fun j o ho _ => by
      have hj := (Array.getElem?_eq_some_iff.1 ho).1
      simp [h1 j hj, hj]
    rw [hdsn] at this
    exact this
  · have := I.heap
    rw [hrows] at this
    exact this
  · show Fresh E' (addMade (2 ^ ops.size - 1) d.made d.cur).next
    rw [hnext, ← hlast]; exact I.fresh
  · have := I.heap
    rw [hrows] at this
    exact this
  · have h3 := I.fr
    rw [hrows] at h3
    exact ⟨h3.le, h3.fro, h3.new, h3.same, h3.kept, h3.gnew, h3.os, h3.tape, h3.output, h3.size, h3.block, h3.own⟩
  · show s.h.next ≤ (addMade (2 ^ ops.size - 1) d.made d.cur).next
    rw [hnext, ← hlast]; have := I.next; omega
  · show Fresh E' (addMade (2 ^ ops.size - 1) d.made d.cur).next
    rw [hnext, ← hlast]; exact I.fresh

end Go.Proofs.YtckcgijepiejlaaGreat.Ae
