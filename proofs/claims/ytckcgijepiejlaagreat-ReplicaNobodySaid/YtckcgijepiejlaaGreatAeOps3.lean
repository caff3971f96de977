/-
  WHAT AN OPERATION YIELDS THAT WRITES NOTHING: fourth part: composite values, ==, operators, built-in functions; and all of them together.
-/
import Derived.Test.YtckcgijepiejlaaGreatAeOps2
namespace Go.Proofs.YtckcgijepiejlaaGreat.Ae
open Go
set_option linter.unusedVariables false
set_option linter.unusedSimpArgs false
set_option linter.unnecessarySimpa false
variable {P : Program} {E : Env} {w : World}

/-! ### composite values -/
theorem over_eq : ∀ {ys cs r : List AV}, over cs ys = some r → r = ys ++ cs.drop ys.length ∧ ys.length ≤ cs.length
  | [], cs, r, h => by
    have : over cs [] = some cs := rfl
    rw [this] at h; cases h; simp
  | y :: ys, [], r, h => by
    have : over [] (y :: ys) = none := rfl
    rw [this] at h; cases h
  | y :: ys, c :: cs, r, h => by
    have e : over (c :: cs) (y :: ys) = match over cs ys with | some r => some (y :: r) | none => none := consO_eq y (over cs ys)
    rw [e] at h
    split at h
    · rename_i r1 h1
      cases h
      obtain ⟨e1, e2⟩ := over_eq h1
      subst e1
      simp; exact e2
    · cases h
theorem splice_eq : ∀ {off : Nat} {ys cs r : List AV}, splice off ys cs = some r → r = cs.take off ++ ys ++ cs.drop (off + ys.length) ∧ off + ys.length ≤ cs.length
  | 0, ys, cs, r, h => by
    have : splice 0 ys cs = over cs ys := rfl
    rw [this] at h
    obtain ⟨e1, e2⟩ := over_eq h
    subst e1; simp; exact e2
  | n + 1, ys, [], r, h => by
    have : splice (n + 1) ys [] = none := rfl
    rw [this] at h; cases h
  | n + 1, ys, c :: cs, r, h => by
    have e : splice (n + 1) ys (c :: cs) = match splice n ys cs with | some r => some (c :: r) | none => none := consO_eq c (splice n ys cs)
    rw [e] at h
    split at h
    · rename_i r1 h1
      cases h
      obtain ⟨e1, e2⟩ := splice_eq h1
      subst e1
      refine ⟨?_, by simp; omega⟩
      rw [show n + 1 + ys.length = (n + ys.length) + 1 by omega]
      simp
    · cases h

theorem RepL.splice {cs ys r : List AV} {vs us : List Value} (hc : RepL E cs vs) (hy : RepL E ys us) {off : Nat} (h : splice off ys cs = some r) :
    RepL E r (vs.take off ++ us ++ vs.drop (off + us.length)) := by
  obtain ⟨e1, e2⟩ := splice_eq h
  subst e1
  rw [← hy.length]
  exact ((RepL.take off hc).append hy).append (RepL.drop _ hc)

theorem over_get {α : Type} (vs cs : List α) (off : Nat) (h : off + vs.length ≤ cs.length) (i : Nat) :
    (cs.take off ++ vs ++ cs.drop (off + vs.length))[i]? = if off ≤ i ∧ i < off + vs.length then vs[i - off]? else cs[i]? := by
  have e : (cs.take off).length = off := by rw [List.length_take]; omega
  rw [List.append_assoc]
  by_cases h1 : i < off
  · rw [List.getElem?_append_left (by omega), List.getElem?_take, if_pos h1, if_neg (by omega)]
  · rw [List.getElem?_append_right (by omega), e]
    by_cases h2 : i < off + vs.length
    · rw [List.getElem?_append_left (by omega), if_pos ⟨by omega, h2⟩]
    · rw [List.getElem?_append_right (by omega), List.getElem?_drop, if_neg (by omega)]
      congr 1
      omega

/-- the machine's way to write cells over others -/
theorem fill_get (off : Nat) : ∀ (vs : List Value) (j : Nat) (cs : Array Value), off + j + vs.length ≤ cs.size → ∀ i : Nat,
    ((vs.zipIdx j).foldl (fun cs x => cs.setIfInBounds (off + x.2) x.1) cs)[i]? = if off + j ≤ i ∧ i < off + j + vs.length then vs[i - (off + j)]? else cs[i]?
  | [], j, cs, h, i => by
    rw [if_neg (by simp)]; simp
  | v :: vs, j, cs, h, i => by
    simp only [List.zipIdx_cons, List.foldl_cons]
    simp only [List.length_cons] at h
    rw [fill_get off vs (j + 1) _ (by simp; omega) i, Array.getElem?_setIfInBounds]
    by_cases h1 : i = off + j
    · subst h1
      rw [if_neg (by omega), if_pos rfl, if_pos (by omega), if_pos (by simp)]
      simp
    · by_cases h2 : off + (j + 1) ≤ i ∧ i < off + (j + 1) + vs.length
      · rw [if_pos h2, if_pos (by simp; omega)]
        obtain ⟨k, hk⟩ : ∃ k, i - (off + j) = k + 1 := ⟨i - (off + j) - 1, by omega⟩
        rw [hk, List.getElem?_cons_succ]
        congr 1
        omega
      · rw [if_neg h2, if_neg (by omega), if_neg (by simp; omega)]

theorem fill_set (vs : List Value) (off : Nat) (cs : Array Value) (h : off + vs.length ≤ cs.size) :
    (vs.zipIdx.foldl (fun cs x => cs.setIfInBounds (off + x.2) x.1) cs).toList = cs.toList.take off ++ vs ++ cs.toList.drop (off + vs.length) := by
  apply List.ext_getElem?
  intro i
  rw [over_get _ _ _ (by simpa using h)]
  have := fill_get off vs 0 cs (by simpa using h) i
  simp only [Nat.add_zero] at this
  simpa using this

/-- parts and their values -/
def RepP (E : Env) : List (Nat × AV) → List (Nat × Value) → Prop
  | [], [] => True
  | p :: ps, q :: qs => p.1 = q.1 ∧ RepV E p.2 q.2 ∧ RepP E ps qs
  | _, _ => False

theorem placeParts_sound {place : Nat → Option (Nat × Nat)} : ∀ {ps : List (Nat × AV)} {qs : List (Nat × Value)} {cs r : List AV} {zs : Array Value}, RepP E ps qs → RepL E cs zs.toList → placeParts place ps cs = some r →
    ∃ out, Instr.fill place zs qs = some out ∧ RepL E r out.toList
  | [], [], cs, r, zs, _, hc, h => by
    simp [placeParts] at h; subst h
    exact ⟨zs, rfl, hc⟩
  | [], _ :: _, _, _, _, hp, _, _ => hp.elim
  | _ :: _, [], _, _, _, hp, _, _ => hp.elim
  | p :: ps, q :: qs, cs, r, zs, hp, hc, h => by
    obtain ⟨hi, hv, hp⟩ := hp
    have h : (match place p.1 with
      | none => none
      | some (off, size) => bif Nat.beq p.2.cells.length size && allOne p.2.cells then (splice off p.2.cells cs).bind (placeParts place ps) else none) = some r := h
    split at h
    · cases h
    · rename_i off size hpl
      by_cases hcond : (Nat.beq p.2.cells.length size && allOne p.2.cells) = true
      · rw [hcond, cond_true] at h
        rw [Bool.and_eq_true] at hcond
        have hlen := nbeq_true hcond.1
        obtain ⟨cs', h1, h2⟩ := bind_some h
        have hraw : ∀ u, p.2 = .raw u → u.oneCell' = true := by
          intro u hu
          rw [hu] at hcond
          simp [AV.cells, allOne_cons, allOne_nil, AV.one] at hcond
          exact hcond.2
        have hcl := hv.cells hraw
        obtain ⟨e1, e2⟩ := splice_eq h1
        have hsz : q.2.cells.size = size := by rw [← hlen, hcl.length]; simp
        have hzs : zs.size = cs.length := by rw [hc.length]; simp
        have hle : off + q.2.cells.size ≤ zs.size := by rw [hsz, hzs, ← hlen]; omega
        have hfold := fill_set q.2.cells.toList off zs (by simpa using hle)
        have hrep : RepL E cs' (q.2.cells.zipIdx.foldl (fun cs x => cs.setIfInBounds (off + x.2) x.1) zs).toList := by
          rw [← Array.foldl_toList, Array.toList_zipIdx, hfold]
          exact RepL.splice hc hcl h1
        obtain ⟨out, h3, h4⟩ := placeParts_sound hp hrep h2
        refine ⟨out, ?_, h4⟩
        obtain ⟨qi, qv⟩ := q
        simp only at hi hsz hle h3
        unfold Instr.fill
        rw [← hi, hpl]
        simp only
        rw [if_neg (by simp only [ne_eq, Bool.or_eq_true, decide_eq_true_eq, not_or, Decidable.not_not]; exact ⟨hsz, by omega⟩)]
        exact h3
      · rw [Bool.not_eq_true] at hcond
        rw [hcond, cond_false] at h; cases h

theorem repP_evoP {tm : Tm} {a : Act} : ∀ (l : List (Nat × Operand)), (∀ x ∈ l, RepV E (evo tm x.2) (a.eval x.2)) → RepP E (evoP tm l) (l.map fun x => (x.1, a.eval x.2))
  | [], _ => trivial
  | x :: l, h => ⟨rfl, h x (by simp), repP_evoP l fun y hy => h y (by simp [hy])⟩

theorem places_all : ∀ (fs : List Field), fs.all (fun f => (szOf P f.type).isSome) = true →
    ∃ places, fs.mapM (fun f => (P.info? f.type).map fun i => (f.offset, i.size)) = some places ∧ ∀ i : Nat, places[i]? = (match fs[i]? with | some f => (match szOf P f.type with | some n => some (f.offset, n) | none => none) | none => none)
  | [], _ => ⟨[], rfl, fun i => by simp⟩
  | f :: fs, h => by
    simp only [List.all_cons, Bool.and_eq_true] at h
    obtain ⟨pl, h1, h2⟩ := places_all fs h.2
    obtain ⟨n, hn⟩ := Option.isSome_iff_exists.1 h.1
    have hn' := hn
    unfold szOf at hn'
    cases hi : P.info? f.type with
    | none => simp [hi] at hn'
    | some i =>
      simp [hi] at hn'
      refine ⟨(f.offset, i.size) :: pl, ?_, ?_⟩
      · simp [List.mapM_cons, hi, h1]
      · intro j
        cases j with
        | zero => simp [hn, hn']
        | succ j => simpa using h2 j

theorem buildA_sound {t : TypeId} {parts : Array (Nat × Value)} {ps : List (Nat × AV)} (hp : RepP E ps parts.toList) {y : AV} (h : buildA P t ps = some y) : Yl P E w (Instr.build t parts) y := by
  unfold buildA at h
  split at h
  · rename_i z hz
    obtain ⟨l, hb, rfl⟩ := aggO_some h
    clear h
    have h := hb; clear hb
    obtain ⟨i, zv, hi, hzv, rfl⟩ := zeroA_some hz
    have hc := repL_toAV_cells E zv
    unfold buildD at h
    split at h
    · rename_i fields hu
      by_cases ha : fields.toList.all (fun f => (szOf P f.type).isSome) = true
      · rw [ha, cond_true] at h
        obtain ⟨pl, hpl, hpl2⟩ := places_all fields.toList ha
        obtain ⟨out, h1, h2⟩ := placeParts_sound hp hc h
        refine ⟨.agg out, run_build w t parts out ?_, by simp only [RepV]; exact ⟨out, rfl, h2⟩⟩
        unfold Program.built
        simp only [hi, hu, hzv, hpl]
        rw [← h1]
        congr 1
        funext j
        have := hpl2 j
        simp only [fieldAt]
        simp only [List.getElem?_toArray, Array.getElem?_toList] at this ⊢
        exact this
      · rw [Bool.not_eq_true] at ha
        rw [ha, cond_false] at h; cases h
    · rename_i n e hu
      split at h
      · rename_i s hs
        obtain ⟨out, h1, h2⟩ := placeParts_sound hp hc h
        refine ⟨.agg out, run_build w t parts out ?_, by simp only [RepV]; exact ⟨out, rfl, h2⟩⟩
        unfold Program.built
        unfold szOf at hs
        cases hie : P.info? e with
        | none => simp [hie] at hs
        | some ie =>
          simp [hie] at hs
          simp only [hi, hu, hzv, hie, hs]
          exact h1
      · cases h
    · cases h
  · cases h

/-! ### == -/
theorem nilness_some {x : AV} {v : Value} (hx : RepV E x v) {n : Nat} (h : nilness x = some n) : (n = 0 ∧ v = .pointer none) ∨ (n = 1 ∧ ∃ a, v = .pointer (some a)) := by
  cases x <;> simp [nilness] at h <;> subst h <;> simp only [RepV] at hx
  · exact .inl ⟨rfl, hx⟩
  · obtain ⟨b, o, rfl, _⟩ := hx; exact .inr ⟨rfl, _, rfl⟩
  · obtain ⟨b, o, c, rfl, _⟩ := hx; exact .inr ⟨rfl, _, rfl⟩
  · exact .inr ⟨rfl, _, hx⟩
theorem nilnessS_some {x : AV} {v : Value} (hx : RepV E x v) {n : Nat} (h : nilnessS x = some n) : (n = 0 ∧ v = .slice none 0 0) ∨ (n = 1 ∧ ∃ a l c, v = .slice (some a) l c) := by
  cases x <;> simp [nilnessS] at h <;> subst h <;> simp only [RepV] at hx
  · exact .inl ⟨rfl, hx⟩
  · obtain ⟨b, o, c, rfl, _⟩ := hx; exact .inr ⟨rfl, _, _, _, rfl⟩
  · obtain ⟨b, o, c, d, rfl, _⟩ := hx; exact .inr ⟨rfl, _, _, _, rfl⟩
theorem nilnessF_some {x : AV} {v : Value} (hx : RepV E x v) {n : Nat} (h : nilnessF x = some n) : (n = 0 ∧ v = .nilFunc) ∨ (n = 1 ∧ ∃ f a b, v = .func f a b) := by
  cases x <;> simp [nilnessF] at h <;> subst h <;> simp only [RepV] at hx
  · obtain ⟨f', p, q, rfl, _⟩ := hx; exact .inr ⟨rfl, _, _, _, rfl⟩
  · exact .inl ⟨rfl, hx⟩
theorem eqNils_some {a b : Option Nat} {r : Bool} (h : eqNils a b = some r) : ∃ m n, a = some m ∧ b = some n ∧ ¬ (m = 1 ∧ n = 1) ∧ r = decide (m = n) := by
  unfold eqNils at h
  split at h
  · rename_i m n
    simp only [nbeq] at h
    by_cases hc : m = 1 ∧ n = 1
    · simp [hc.1, hc.2] at h
    · have : (decide (m = 1) && decide (n = 1)) = false := by
        rw [Bool.and_eq_false_iff]; simp only [decide_eq_false_iff_not]
        by_cases h1 : m = 1
        · exact .inr fun h2 => hc ⟨h1, h2⟩
        · exact .inl h1
      rw [this, cond_false] at h
      cases h
      exact ⟨m, n, rfl, rfl, hc, rfl⟩
  · cases h

/-- what the test tells holds of the machine's test to any depth from d on -/
def EqAt' (P : Program) (d : Nat) : Prop :=
  ∀ (E : Env) (w : World) (t : TypeId) (x y : AV) (u v : Value) (b : Bool), RepV E x u → RepV E y v → eqA P d t x y = some b → ∀ D, d ≤ D → (Op.equalIn D t u v).run P w = .ok b w

theorem eqFields_sound {d D : Nat} (ih : EqAt' P d) (hD : d ≤ D) {xs ys : List AV} {us vs : Array Value} (hx : RepL E xs us.toList) (hy : RepL E ys vs.toList) :
    ∀ (fs : List Field) (b : Bool), eqFields P (eqA P d) xs ys fs = some b → (Op.eqFields D us vs fs).run P w = .ok b w
  | [], b, h => by simp [eqFields] at h; subst h; rfl
  | f :: fs, b, h => by
    simp only [eqFields] at h
    simp only [Op.eqFields]
    by_cases hn : f.name ≠ "_"
    · rw [if_pos hn] at h ⊢
      unfold eqPart at h
      split at h
      · rename_i p hp
        split at h
        · rename_i q hq
          obtain ⟨pu, h1, h2⟩ := partA_sound (P := P) (w := w) hx hp
          obtain ⟨qu, h3, h4⟩ := partA_sound (P := P) (w := w) hy hq
          split at h
          · rename_i he
            have := ih E w f.type p q pu qu true h2 h4 he D hD
            simp only [Sem.run_bind, h1, h3, Result.andThen_ok, this]
            simp only [Bool.not_true, Bool.false_eq_true, if_false]
            exact eqFields_sound ih hD hx hy fs b h
          · rename_i he
            cases h
            have := ih E w f.type p q pu qu false h2 h4 he D hD
            simp [Sem.run_bind, h1, h3, Result.andThen_ok, this]
          · cases h
        · cases h
      · cases h
    · rw [if_neg hn] at h ⊢
      exact eqFields_sound ih hD hx hy fs b h

theorem eqA_sound : ∀ d, EqAt' P d
  | 0 => fun E w t x y u v b _ _ h => by cases h
  | d + 1 => fun E w t x y u v b hx hy h D hD => by
    obtain ⟨D, rfl⟩ : ∃ k, D = k + 1 := ⟨D - 1, by omega⟩
    have hD' : d ≤ D := by omega
    have e : eqA P (d + 1) t x y = eqD P (eqA P d) t (P.underlying t) x y := rfl
    rw [e] at h
    unfold eqD at h
    split at h
    · rename_i hu
      cases x <;> simp only [eqBoolA] at h <;> try cases h
      cases y <;> simp only at h <;> try cases h
      simp only [RepV] at hx hy; subst hx hy
      exact run_equalIn_bool w D t _ _ hu
    · rename_i k0 hu
      cases x <;> simp only [eqIntA] at h <;> try cases h
      cases y <;> simp only at h <;> try cases h
      rename_i k a k' a'
      by_cases hk : Nat.beq (kcode k) (kcode k') = true
      · rw [hk, cond_true] at h
        have := kcode_inj hk
        subst this
        cases h
        simp only [RepV] at hx hy; subst hx hy
        rw [run_equalIn_int w D t _ _ _ _ hu, eqI_eq]
      · rw [Bool.not_eq_true] at hk
        rw [hk, cond_false] at h; cases h
    · rename_i hu
      cases x <;> simp only [eqStrA] at h <;> try cases h
      cases y <;> simp only at h <;> try cases h
      rename_i s1 s2
      simp only [RepV] at hx hy; subst hx hy
      rw [run_equalIn_string w D t _ _ hu, eqS_eq, ByteArray.toList_eq, ByteArray.toList_eq]
      congr 1
      show (s1 == s2) = decide (s1 = s2)
      by_cases h : s1 = s2
      · subst h; simp
      · simp [h]
    · rename_i e0 hu
      obtain ⟨m, n, h1, h2, h3, rfl⟩ := eqNils_some h
      unfold Op.equalIn
      simp only [Sem.run_bind, run_und hu, Result.andThen_ok]
      rcases nilness_some hx h1 with ⟨rfl, rfl⟩ | ⟨rfl, a, rfl⟩ <;> rcases nilness_some hy h2 with ⟨rfl, rfl⟩ | ⟨rfl, a', rfl⟩
      · simp
      · simp
      · simp
      · exact absurd ⟨rfl, rfl⟩ h3
    · rename_i ms hu
      unfold eqIfA at h
      unfold Op.equalIn
      simp only [Sem.run_bind, run_und hu, Result.andThen_ok]
      split at h
      · simp only [RepV] at hx; subst hx
        split at h
        · cases h; simp only [RepV] at hy; subst hy; simp
        · cases h; simp only [RepV] at hy; obtain ⟨_, rfl, _⟩ := hy; simp
        · cases h
      · rename_i tx vx
        simp only [RepV] at hx
        obtain ⟨xv, rfl, hx⟩ := hx
        split at h
        · cases h; simp only [RepV] at hy; subst hy; simp
        · rename_i ty vy
          simp only [RepV] at hy
          obtain ⟨yv, rfl, hy⟩ := hy
          by_cases ht : tx = ty
          · subst ht
            rw [nbeq, decide_eq_true rfl, cond_true] at h
            split at h
            · rename_i i hi
              cases hcmp : i.comparable with
              | false => rw [hcmp, cond_false] at h; cases h
              | true =>
                rw [hcmp, cond_true] at h
                have := eqA_sound d E w tx vx vy xv yv b hx hy h D hD'
                simp [run_info hi, hcmp, this]
            · cases h
          · rw [nbeq_false ht, cond_false] at h
            cases h
            simp [ht]
        · cases h
      · cases h
    · rename_i fs hu
      unfold eqStructA at h
      split at h
      · rename_i xs
        split at h
        · rename_i ys
          simp only [RepV] at hx hy
          obtain ⟨us, rfl, hx⟩ := hx
          obtain ⟨vs, rfl, hy⟩ := hy
          cases hst : P.stoodInHeld t with
          | true => rw [hst, cond_true] at h; cases h
          | false =>
            rw [hst, cond_false] at h
            have hf : P.fieldsOf t = fs := by simp [Program.fieldsOf, hu]
            rw [run_equalIn_struct w D t us vs (by rw [hf]; exact hu) hst, hf]
            exact eqFields_sound (eqA_sound d) hD' hx hy _ _ h
        · cases h
      · cases h
    · rename_i e0 hu
      obtain ⟨m, n, h1, h2, h3, rfl⟩ := eqNils_some h
      unfold Op.equalIn
      simp only [Sem.run_bind, run_und hu, Result.andThen_ok]
      rcases nilnessS_some hx h1 with ⟨rfl, rfl⟩ | ⟨rfl, a, l, c, rfl⟩ <;> rcases nilnessS_some hy h2 with ⟨rfl, rfl⟩ | ⟨rfl, a', l', c', rfl⟩
      · simp
      · simp
      · simp
      · exact absurd ⟨rfl, rfl⟩ h3
    · rename_i p1 p2 p3 hu
      obtain ⟨m, n, h1, h2, h3, rfl⟩ := eqNils_some h
      unfold Op.equalIn
      simp only [Sem.run_bind, run_und hu, Result.andThen_ok]
      rcases nilnessF_some hx h1 with ⟨rfl, rfl⟩ | ⟨rfl, a, l, c, rfl⟩ <;> rcases nilnessF_some hy h2 with ⟨rfl, rfl⟩ | ⟨rfl, a', l', c', rfl⟩
      · simp
      · simp
      · simp
      · exact absurd ⟨rfl, rfl⟩ h3
    · cases h

theorem isAggV_of {x : AV} {xs : Array Value} (hx : RepV E x (.agg xs)) (hr : ∀ u, x ≠ .raw u) : isAggV x = true := by
  cases x <;> simp only [RepV] at hx <;> first
    | rfl
    | (cases hx; done)
    | (obtain ⟨_, _, h, _⟩ := hx; cases h; done)
    | (obtain ⟨_, _, _, h, _⟩ := hx; cases h; done)
    | (obtain ⟨_, _, _, _, h, _⟩ := hx; cases h; done)
    | (obtain ⟨_, h, _⟩ := hx; cases h; done)
    | exact absurd rfl (hr _)
theorem isNilIf_of {x : AV} (hx : RepV E x .nilIface) (hr : ∀ u, x ≠ .raw u) : isNilIf x = true := by
  cases x <;> simp only [RepV] at hx <;> first
    | rfl
    | (cases hx; done)
    | (obtain ⟨_, _, h, _⟩ := hx; cases h; done)
    | (obtain ⟨_, _, _, h, _⟩ := hx; cases h; done)
    | (obtain ⟨_, _, _, _, h, _⟩ := hx; cases h; done)
    | (obtain ⟨_, h, _⟩ := hx; cases h; done)
    | exact absurd rfl (hr _)

theorem eqA_notRaw {d : Nat} {t : TypeId} {x y : AV} {b : Bool} (h : eqA P d t x y = some b) : (∀ u, x ≠ .raw u) ∧ ∀ u, y ≠ .raw u := by
  cases d with
  | zero => cases h
  | succ d =>
    have e : eqA P (d + 1) t x y = eqD P (eqA P d) t (P.underlying t) x y := rfl
    rw [e] at h
    refine ⟨fun u hu => ?_, fun u hu => ?_⟩ <;> subst hu
    · unfold eqD at h
      split at h <;> simp [eqBoolA, eqIntA, eqStrA, eqNils, nilness, nilnessS, nilnessF, eqIfA, eqStructA] at h
    · unfold eqD at h
      split at h
      · unfold eqBoolA at h; split at h <;> simp at h
      · unfold eqIntA at h; split at h <;> simp at h
      · unfold eqStrA at h; split at h <;> simp at h
      · unfold eqNils at h; split at h <;> simp_all [nilness]
      · unfold eqIfA at h; split at h <;> simp at h
      · unfold eqStructA at h; split at h <;> simp at h
      · unfold eqNils at h; split at h <;> simp_all [nilnessS]
      · unfold eqNils at h; split at h <;> simp_all [nilnessF]
      · cases h

theorem eqOpA_some {t : TypeId} {lit : Bool} {x y : AV} {b : Bool} (h : eqOpA P t lit x y = some b) :
    eqA P eqDepth t x y = some b ∧ ¬ (isNilIf x = true ∧ isNilIf y = true ∧ lit = false) ∧ ¬ (isAggV x = true ∧ isAggV y = true ∧ P.eqGuardType P.depth t = true) := by
  unfold eqOpA at h
  cases h1 : (isNilIf x && (isNilIf y && !lit)) with
  | true => rw [h1, cond_true] at h; cases h
  | false =>
    rw [h1, cond_false] at h
    cases h2 : (isAggV x && (isAggV y && P.eqGuardType P.depth t)) with
    | true => rw [h2, cond_true] at h; cases h
    | false =>
      rw [h2, cond_false] at h
      refine ⟨h, ?_, ?_⟩
      · rintro ⟨a, b, c⟩; simp [a, b, c] at h1
      · rintro ⟨a, b, c⟩; simp [a, b, c] at h2

def eqG (t : TypeId) (x y : Operand) (a b : Value) : Sem Unit := do
  match a, b with
  | .nilIface, .nilIface =>
    if isLit x || isLit y then return
    if ← Op.eqGuardIn Op.maxDepth t a b then unsupported (.noEntry "binop/eql: two nil values of an interface type with methods, neither of them the literal nil")
  | .agg _, .agg _ =>
    if !(← program).eqGuardType (← program).depth t then return
    if ← Op.eqGuardIn Op.maxDepth t a b then unsupported (.noEntry "binop/eql: two nil values of an interface type with methods, in a part of a struct or an array")
  | _, _ => pure ()
theorem eqGuard_eq {op : BinOp} (hop : op = .eql ∨ op = .neq) (t : TypeId) (x y : Operand) (a b : Value) : eqGuard op t x y a b = eqG t x y a b := by
  rcases hop with rfl | rfl <;> rfl
theorem eqOp_sound {t : TypeId} {xo yo : Operand} {x y : AV} {u v : Value} (hx : RepV E x u) (hy : RepV E y v) {b : Bool} (h : eqOpA P t (isLit xo || isLit yo) x y = some b) (op : BinOp) (hop : op = .eql ∨ op = .neq) :
    (eqGuard op t xo yo u v).run P w = .ok () w ∧ (Op.equal t u v).run P w = .ok b w := by
  obtain ⟨h1, h2, h3⟩ := eqOpA_some h
  obtain ⟨n1, n2⟩ := eqA_notRaw h1
  refine ⟨?_, eqA_sound eqDepth E w t x y u v b hx hy h1 Op.maxDepth (by decide)⟩
  rw [eqGuard_eq hop]
  unfold eqG
  split
  · have e1 := isNilIf_of hx n1
    have e2 := isNilIf_of hy n2
    have hl : (isLit xo || isLit yo) = true := by
      cases hl : (isLit xo || isLit yo) with
      | true => rfl
      | false => exact absurd ⟨e1, e2, hl⟩ h2
    rw [if_pos hl]; rfl
  · have e1 := isAggV_of hx n1
    have e2 := isAggV_of hy n2
    have hg : P.eqGuardType P.depth t = false := by
      cases hg : P.eqGuardType P.depth t with
      | false => rfl
      | true => exact absurd ⟨e1, e2, hg⟩ h3
    simp [hg]
  · rfl

/-! ### operators -/
theorem eqGuard_other {op : BinOp} {t : TypeId} {x y : Operand} {u v : Value} (h : (op ≠ .eql ∧ op ≠ .neq) ∨ (∀ z, u ≠ .agg z) ∧ u ≠ .nilIface) : eqGuard op t x y u v = pure () := by
  rcases h with ⟨h1, h2⟩ | ⟨h1, h2⟩
  · cases op <;> first | rfl | exact absurd rfl h1 | exact absurd rfl h2
  · cases op <;> first | rfl | (cases u <;> first | rfl | exact absurd rfl (h1 _) | exact absurd rfl h2)

theorem bits_and (k : IntKind) (a b : Int) : bitsA Nat.land (fun _ x y => x &&& y) k a b = some (.int k (k.wrap (BitVec.ofInt k.bits a &&& BitVec.ofInt k.bits b).toNat)) :=
  bitsA_sound (f := Nat.land) (g := fun _ x y => x &&& y) land_ok k a b
theorem bits_or (k : IntKind) (a b : Int) : bitsA Nat.lor (fun _ x y => x ||| y) k a b = some (.int k (k.wrap (BitVec.ofInt k.bits a ||| BitVec.ofInt k.bits b).toNat)) :=
  bitsA_sound (f := Nat.lor) (g := fun _ x y => x ||| y) lor_ok k a b
theorem bits_xor (k : IntKind) (a b : Int) : bitsA Nat.xor (fun _ x y => x ^^^ y) k a b = some (.int k (k.wrap (BitVec.ofInt k.bits a ^^^ BitVec.ofInt k.bits b).toNat)) :=
  bitsA_sound (f := Nat.xor) (g := fun _ x y => x ^^^ y) xor_ok k a b
theorem bits_andNot (k : IntKind) (a b : Int) : bitsA (fun x y => Nat.xor x (Nat.land x y)) (fun _ x y => x &&& ~~~y) k a b = some (.int k (k.wrap (BitVec.ofInt k.bits a &&& ~~~BitVec.ofInt k.bits b).toNat)) :=
  bitsA_sound (f := fun x y => Nat.xor x (Nat.land x y)) (g := fun _ x y => x &&& ~~~y) andNot_ok k a b

theorem intBinK_sound {op : BinOp} {k : IntKind} {a b : Int} {y : AV} (h : intBinK op k a b = some y) (hs : isShift op = none) {t : TypeId} :
    Yl P E w (binOp op t (.int k a) (.int k b)) y := by
  cases op <;> simp only [isShift] at hs <;> try cases hs
  all_goals simp only [intBinK, rInt_eq, rBool_eq, bits_and, bits_or, bits_xor, bits_andNot, quoA, remA, forceI_eq] at h
  case add | sub | mul =>
    cases h
    refine ⟨_, ?_, by simp only [RepV]; rfl⟩
    simp [binOp, Op.intArith]
  case quo =>
    rw [eqI_eq] at h
    by_cases hb : b = 0
    · subst hb; simp at h
    · have : (b == 0) = false := by simpa using hb
      rw [this, cond_false] at h
      cases h
      refine ⟨_, ?_, by simp only [RepV]; rfl⟩
      simp [binOp, Op.intDiv, hb]
  case rem =>
    rw [eqI_eq] at h
    by_cases hb : b = 0
    · subst hb; simp at h
    · have : (b == 0) = false := by simpa using hb
      rw [this, cond_false] at h
      cases h
      refine ⟨_, ?_, by simp only [RepV]; rfl⟩
      simp [binOp, Op.intDiv, hb]
  case and | or | xor | andNot =>
    cases h
    refine ⟨_, ?_, by simp only [RepV]; rfl⟩
    simp [binOp, Op.intBits]
  case eql | neq =>
    cases h
    rw [eqI_eq]
    refine ⟨_, ?_, by simp only [RepV]; rfl⟩
    simp [binOp, Op.intCmp, bne]
  case lss | leq | gtr | geq =>
    cases h
    rw [ltI_eq]
    refine ⟨_, ?_, by simp only [RepV]; rfl⟩
    have e1 : decide (a ≤ b) = !decide (b < a) := by
      by_cases hc : b < a
      · simp [hc]
      · simp [hc]; omega
    have e2 : decide (b ≤ a) = !decide (a < b) := by
      by_cases hc : a < b
      · simp [hc]
      · simp [hc]; omega
    simp [binOp, Op.intCmp, e1, e2]

theorem intBin_sound {op : BinOp} {k k' : IntKind} {a b : Int} {y : AV} (h : intBinA op k k' a b = some y) {t : TypeId} {xo yo : Operand} :
    Yl P E w (do eqGuard op t xo yo (.int k a) (.int k' b); binOp op t (.int k a) (.int k' b)) y := by
  rw [eqGuard_other (.inr ⟨by intro z; simp, by simp⟩)]
  unfold intBinA at h
  cases hs : isShift op with
  | some left =>
    rw [hs] at h
    simp only at h
    unfold shiftA at h
    cases b with
    | negSucc n => cases h
    | ofNat n =>
      have hb : ¬ (Int.ofNat n < 0) := by simp
      cases left with
      | true =>
        simp only [cond_true, shl_ok] at h
        cases h
        have : op = .shl := by cases op <;> simp [isShift] at hs <;> rfl
        subst this
        refine ⟨_, ?_, by simp only [RepV]; rfl⟩
        show (do pure (); binOp .shl t (.int k a) (.int k' (Int.ofNat n))).run P w = _
        simp only [Sem.run_bind, Sem.run_pure, Result.andThen_ok, binOp, Op.shift]
        rw [if_neg hb]; rfl
      | false =>
        simp only [cond_false, shr_ok] at h
        cases h
        have : op = .shr := by cases op <;> simp [isShift] at hs <;> rfl
        subst this
        refine ⟨_, ?_, by simp only [RepV]; rfl⟩
        show (do pure (); binOp .shr t (.int k a) (.int k' (Int.ofNat n))).run P w = _
        simp only [Sem.run_bind, Sem.run_pure, Result.andThen_ok, binOp, Op.shift]
        rw [if_neg hb]; rfl
  | none =>
    rw [hs] at h
    simp only at h
    by_cases hk : Nat.beq (kcode k) (kcode k') = true
    · rw [hk, cond_true] at h
      have := kcode_inj hk
      subst this
      obtain ⟨u, h1, h2⟩ := intBinK_sound (P := P) (E := E) (w := w) (t := t) h hs
      exact ⟨u, by simpa using h1, h2⟩
    · rw [Bool.not_eq_true] at hk
      rw [hk, cond_false] at h; cases h

theorem strBin_sound {op : BinOp} {a b : List UInt8} {y : AV} (h : strBinA op a b = some y) {t : TypeId} {xo yo : Operand} :
    Yl P E w (do eqGuard op t xo yo (.string ⟨a.toArray⟩) (.string ⟨b.toArray⟩); binOp op t (.string ⟨a.toArray⟩) (.string ⟨b.toArray⟩)) y := by
  rw [eqGuard_other (.inr ⟨by intro z; simp, by simp⟩)]
  have hb : binOp op t (.string ⟨a.toArray⟩) (.string ⟨b.toArray⟩) = Op.stringOp op ⟨a.toArray⟩ ⟨b.toArray⟩ := by cases op <;> rfl
  have ha : (⟨a.toArray⟩ : ByteArray).toList = a := by rw [ByteArray.toList_eq]
  have hb' : (⟨b.toArray⟩ : ByteArray).toList = b := by rw [ByteArray.toList_eq]
  simp only [Yl, Sem.run_bind, Sem.run_pure, Result.andThen_ok, hb]
  have dec : decide (a = b) = (a == b) := by
    by_cases h : a = b
    · subst h; simp
    · simp [h]
  cases op <;> simp only [strBinA, rBool_eq, forceS_eq, eqS_eq, ltS_eq] at h <;> try cases h
  case add =>
    rw [nblt] at h
    by_cases hl : 9223372036854775807 < a.length + b.length
    · rw [decide_eq_true hl, cond_true] at h; cases h
    · rw [decide_eq_false hl, cond_false] at h
      cases h
      refine ⟨.string (⟨a.toArray⟩ ++ ⟨b.toArray⟩), ?_, ?_⟩
      · unfold Op.stringOp
        simp only [bytes_size]
        rw [if_neg]; · rfl
        show ¬ (((a.length + b.length : Nat) : Int) > IntKind.max .i64)
        have : IntKind.max .i64 = 9223372036854775807 := by decide
        rw [this]; omega
      · simp only [RepV]
        congr 1
  all_goals
    refine ⟨_, ?_, by simp only [RepV]; rfl⟩
    simp [Op.stringOp, ha, hb', dec]

theorem boolO_some {o : Option Bool} {y : AV} (h : boolO o = some y) : ∃ b, o = some b ∧ y = .bool b := by
  cases o with
  | none => cases h
  | some b => simp [boolO] at h; exact ⟨b, rfl, h.symm⟩
theorem notO_some {o : Option Bool} {y : AV} (h : notO o = some y) : ∃ b, o = some b ∧ y = .bool (!b) := by
  cases o with
  | none => cases h
  | some b => simp [notO] at h; exact ⟨b, rfl, h.symm⟩

/-- no number, no text: then == is the general one -/
def Other (v : Value) : Prop := (∀ k n, v ≠ .int k n) ∧ (∀ s, v ≠ .string s) ∧ (∀ k n, v ≠ .float k n) ∧ (∀ k a b, v ≠ .complex k a b)

theorem binOp_eq_other {t : TypeId} {u v : Value} (h : Other u) : binOp .eql t u v = (do pure (.bool (← Op.equal t u v))) ∧ binOp .neq t u v = (do pure (.bool (!(← Op.equal t u v)))) := by
  obtain ⟨h1, h2, h3, h4⟩ := h
  cases u <;> first
    | exact absurd rfl (h1 _ _)
    | exact absurd rfl (h2 _)
    | exact absurd rfl (h3 _ _)
    | exact absurd rfl (h4 _ _ _)
    | exact ⟨rfl, rfl⟩

theorem eqBin_sound {op : BinOp} {t : TypeId} {xo yo : Operand} {x y z : AV} {u v : Value} (hx : RepV E x u) (hy : RepV E y v) (hu : Other u) (h : eqBinA P op t (isLit xo || isLit yo) x y = some z) :
    Yl P E w (do eqGuard op t xo yo u v; binOp op t u v) z := by
  unfold eqBinA at h
  split at h
  · obtain ⟨b, hb, rfl⟩ := boolO_some h
    obtain ⟨e1, e2⟩ := eqOp_sound (P := P) (w := w) hx hy hb .eql (.inl rfl)
    refine ⟨.bool b, ?_, by simp only [RepV]⟩
    rw [(binOp_eq_other hu).1]
    simp [e1, e2]
  · obtain ⟨b, hb, rfl⟩ := notO_some h
    obtain ⟨e1, e2⟩ := eqOp_sound (P := P) (w := w) hx hy hb .neq (.inr rfl)
    refine ⟨.bool (!b), ?_, by simp only [RepV]⟩
    rw [(binOp_eq_other hu).2]
    simp [e1, e2]
  · cases h

theorem other_of {x : AV} {u : Value} (hx : RepV E x u) (h1 : ∀ k n, x ≠ .int k n) (h2 : ∀ s, x ≠ .str s) (h3 : ∀ v, x ≠ .raw v) : Other u := by
  cases x <;> simp only [RepV] at hx <;> first
    | exact absurd rfl (h1 _ _)
    | exact absurd rfl (h2 _)
    | exact absurd rfl (h3 _)
    | (subst hx; exact ⟨by simp, by simp, by simp, by simp⟩)
    | (obtain ⟨_, _, rfl, _⟩ := hx; exact ⟨by simp, by simp, by simp, by simp⟩)
    | (obtain ⟨_, _, _, rfl, _⟩ := hx; exact ⟨by simp, by simp, by simp, by simp⟩)
    | (obtain ⟨_, _, _, _, rfl, _⟩ := hx; exact ⟨by simp, by simp, by simp, by simp⟩)
    | (obtain ⟨_, rfl, _⟩ := hx; exact ⟨by simp, by simp, by simp, by simp⟩)

theorem eqBin_notRaw {op : BinOp} {t : TypeId} {lit : Bool} {x y z : AV} (h : eqBinA P op t lit x y = some z) : ∀ u, x ≠ .raw u := by
  unfold eqBinA at h
  split at h
  · obtain ⟨b, hb, _⟩ := boolO_some h
    exact (eqA_notRaw (eqOpA_some hb).1).1
  · obtain ⟨b, hb, _⟩ := notO_some h
    exact (eqA_notRaw (eqOpA_some hb).1).1
  · cases h

theorem binA_sound {op : BinOp} {t : TypeId} {xo yo : Operand} {x y z : AV} {u v : Value} (hx : RepV E x u) (hy : RepV E y v) (h : binA P op t (isLit xo || isLit yo) x y = some z) :
    Yl P E w (do eqGuard op t xo yo u v; binOp op t u v) z := by
  unfold binA at h
  split at h
  · split at h
    · simp only [RepV] at hx hy; subst hx hy
      exact intBin_sound h
    · cases h
  · split at h
    · simp only [RepV] at hx hy; subst hx hy
      exact strBin_sound h
    · cases h
  · rename_i x' h1 h2
    exact eqBin_sound hx hy (other_of hx (fun k n e => h1 k n e) (fun s e => h2 s e) (eqBin_notRaw h)) h

theorem unA_sound {op : UnOp} {x y : AV} {u : Value} (hx : RepV E x u) (h : unA op x = some y) : Yl P E w (Op.unary op u) y := by
  unfold unA at h
  split at h
  · rename_i k n
    simp only [RepV] at hx; subst hx
    split at h
    · rw [rInt_eq] at h; cases h
      exact ⟨_, rfl, by simp only [RepV]⟩
    · rw [bits_xor] at h; cases h
      exact ⟨_, rfl, by simp only [RepV]⟩
    · cases h
  · simp only [RepV] at hx; subst hx
    split at h
    · rw [rBool_eq] at h; cases h
      exact ⟨_, rfl, by simp only [RepV]⟩
    · cases h
  · cases h

theorem nilCheckA_some {x y : AV} (h : nilCheckA x = some y) : y = x := by
  cases x <;> simp only [nilCheckA] at h <;> try cases h
  all_goals first
    | rfl
    | (rename_i f _ _; cases f <;> simp at h; exact h.symm)

/-! ### built-in functions -/
theorem natA_eq (n : Nat) : natA n = some (.int .i64 n) := by simp [natA]

theorem headT_some {ts : Array TypeId} {k : TypeId → Option AV} {y : AV} (h : headT ts.toList k = some y) : ∃ t, ts[0]? = some t ∧ k t = some y := by
  obtain ⟨l⟩ := ts
  cases l with
  | nil => cases h
  | cons t l => exact ⟨t, by simp, h⟩
theorem head1_some {α : Type} {xs : List AV} {k : AV → Option α} {y : α} (h : head1 xs k = some y) : ∃ x l, xs = x :: l ∧ k x = some y := by
  cases xs with
  | nil => cases h
  | cons x l => exact ⟨x, l, rfl, h⟩

theorem lenD_sound {t : TypeId} {x y : AV} {u : Value} (hx : RepV E x u) (h : lenD P (P.underlying t) x = some y) {ts : Array TypeId} {args : Array Value} (ht : ts[0]? = some t) (ha : args[0]? = some u) (ty : TypeId) :
    Yl P E w (Builtin.len_ ts ty args) y := by
  unfold lenD at h
  unfold Builtin.len_
  simp only [ht, ha, Yl]
  split at h
  · rename_i hu
    split at h
    · simp only [RepV] at hx; subst hx
      rw [natA_eq] at h; cases h
      refine ⟨_, ?_, by simp only [RepV]; rfl⟩
      simp [run_und hu, goInt, bytes_size]
    · cases h
  · rename_i hu
    rw [natA_eq] at h; cases h
    refine ⟨_, ?_, by simp only [RepV]; rfl⟩
    simp [run_und hu, goInt]
  · rename_i e hu
    split at h
    · rename_i n e' he
      rw [natA_eq] at h; cases h
      refine ⟨_, ?_, by simp only [RepV]; rfl⟩
      simp [run_und hu, run_und he, goInt]
    · cases h
  · rename_i hu
    split at h
    · simp only [RepV] at hx; subst hx
      rw [natA_eq] at h; cases h
      refine ⟨_, ?_, by simp only [RepV]; rfl⟩
      simp [run_und hu, goInt]
    · simp only [RepV] at hx
      obtain ⟨b, o, c, rfl, _⟩ := hx
      rw [natA_eq] at h; cases h
      refine ⟨_, ?_, by simp only [RepV]; rfl⟩
      simp [run_und hu, goInt]
    · simp only [RepV] at hx
      obtain ⟨b, o, c, d, rfl, _⟩ := hx
      rw [natA_eq] at h; cases h
      refine ⟨_, ?_, by simp only [RepV]; rfl⟩
      simp [run_und hu, goInt]
    · cases h
  · cases h

theorem capD_sound {t : TypeId} {x y : AV} {u : Value} (hx : RepV E x u) (h : capD (P.underlying t) x = some y) {ts : Array TypeId} {args : Array Value} (ht : ts[0]? = some t) (ha : args[0]? = some u) (ty : TypeId) :
    Yl P E w (Builtin.cap_ ts ty args) y := by
  unfold capD at h
  unfold Builtin.cap_
  simp only [ht, ha, Yl]
  split at h
  · rename_i hu
    split at h
    · simp only [RepV] at hx; subst hx
      rw [natA_eq] at h; cases h
      refine ⟨_, ?_, by simp only [RepV]; rfl⟩
      simp [run_und hu, goInt]
    · rename_i n
      simp only [RepV] at hx
      obtain ⟨b, o, c, rfl, _, hc, _⟩ := hx
      have := hc n rfl
      subst this
      rw [natA_eq] at h; cases h
      refine ⟨_, ?_, by simp only [RepV]; rfl⟩
      simp [run_und hu, goInt]
    · rename_i n
      simp only [RepV] at hx
      obtain ⟨b, o, c, d, rfl, _, hc, _⟩ := hx
      have := hc n rfl
      subst this
      rw [natA_eq] at h; cases h
      refine ⟨_, ?_, by simp only [RepV]; rfl⟩
      simp [run_und hu, goInt]
    · cases h
  · cases h

theorem intsOf_some : ∀ {xs : List AV} {vs : List Value} {l : List Int}, RepL E xs vs → intsOf xs = some l → ∃ ks : List (IntKind × Int), vs = ks.map (fun p => .int p.1 p.2) ∧ l = ks.map (·.2) ∧ ∀ k, kindOf xs = some k → ∃ n r, ks = (k, n) :: r
  | [], vs, l, hx, h => by
    simp [intsOf] at h; subst h
    have := hx.nil_inv; subst this
    exact ⟨[], rfl, rfl, fun k hk => by simp [kindOf] at hk⟩
  | x :: xs, vs, l, hx, h => by
    unfold intsOf at h
    split at h
    · rename_i e; cases e
    · rename_i k n r e
      cases e
      obtain ⟨v, vr, rfl, h1, h2⟩ := hx.uncons
      split at h
      · rename_i l' hl
        cases h
        obtain ⟨ks, rfl, rfl, _⟩ := intsOf_some h2 hl
        simp only [RepV] at h1; subst h1
        exact ⟨(k, n) :: ks, rfl, rfl, fun k' hk => by simp [kindOf] at hk; subst hk; exact ⟨n, ks, rfl⟩⟩
      · cases h
    · cases h

theorem fold_sound {f : Int → Int → Int} {g : Value → Value → Sem Value} (hg : ∀ k k' a b, g (.int k a) (.int k' b) = pure (.int k (f a b))) (k : IntKind) :
    ∀ (ks : List (IntKind × Int)) (a : Int), ((ks.map (fun p => Value.int p.1 p.2)).foldlM g (.int k a)).run P w = .ok (.int k ((ks.map (·.2)).foldl f a)) w
  | [], a => by simp
  | p :: ks, a => by
    simp only [List.map_cons, List.foldlM_cons, Sem.run_bind, hg, Sem.run_pure, Result.andThen_ok, List.foldl_cons]
    exact fold_sound hg k ks _

theorem max2A_eq (a b : Int) : max2A a b = if b > a then b else a := by
  unfold max2A; rw [ltI_eq]
  by_cases h : a < b
  · simp [h]
  · simp [h]
theorem min2A_eq (a b : Int) : min2A a b = if b < a then b else a := by
  unfold min2A; rw [ltI_eq]
  by_cases h : b < a
  · simp [h]
  · simp [h]

theorem foldI_sound {f : Int → Int → Int} {g : Value → Value → Sem Value} (hg : ∀ k k' a b, g (.int k a) (.int k' b) = pure (.int k (f a b))) {xs : List AV} {args : Array Value} (hx : RepL E xs args.toList) {y : AV}
    (h : foldI f xs = some y) : ∃ x rest, args.toList = x :: rest ∧ Yl P E w (rest.foldlM g x) y := by
  unfold foldI at h
  split at h
  · rename_i k hk
    split at h
    · rename_i n l hl
      obtain ⟨ks, hv, hl2, hkk⟩ := intsOf_some hx hl
      obtain ⟨n', r, rfl⟩ := hkk k hk
      simp only [forceI_eq] at h
      cases h
      simp only [List.map_cons, List.cons.injEq] at hl2
      obtain ⟨rfl, rfl⟩ := hl2
      refine ⟨_, _, hv, _, fold_sound hg k r _, by simp only [RepV]⟩
    · cases h
  · cases h

theorem builtinA_sound {b : Builtin} {ts : Array TypeId} {xs : List AV} {args : Array Value} (hx : RepL E xs args.toList) {y : AV} (h : builtinA P b ts.toList xs = some y) (ty : TypeId) (cs : Array Bool) :
    ∃ u, (builtin b ts ty cs args).run P w = .ok (.value u) w ∧ RepV E y u := by
  have a0 : ∀ {x : AV} {l : List AV}, xs = x :: l → ∃ u, args[0]? = some u ∧ RepV E x u := by
    intro x l e
    subst e
    obtain ⟨u, r, e1, h1, _⟩ := hx.uncons
    have : args[0]? = some u := by
      have : args.toList[0]? = some u := by rw [e1]; simp
      simpa using this
    exact ⟨u, this, h1⟩
  unfold builtinA at h
  split at h
  · obtain ⟨t, ht, h⟩ := headT_some h
    obtain ⟨x, l, e, h⟩ := head1_some h
    obtain ⟨u, hu, hr⟩ := a0 e
    obtain ⟨z, h1, h2⟩ := lenD_sound (P := P) (w := w) hr h ht hu ty
    exact ⟨z, by simp [builtin, h1], h2⟩
  · obtain ⟨t, ht, h⟩ := headT_some h
    obtain ⟨x, l, e, h⟩ := head1_some h
    obtain ⟨u, hu, hr⟩ := a0 e
    obtain ⟨z, h1, h2⟩ := capD_sound (P := P) (w := w) hr h ht hu ty
    exact ⟨z, by simp [builtin, h1], h2⟩
  · obtain ⟨x, rest, e, z, h1, h2⟩ := foldI_sound (P := P) (w := w) (g := Builtin.max2) (fun k k' a b => by simp [Builtin.max2, max2A_eq]) hx h
    exact ⟨z, by simp [builtin, Builtin.max_, e, h1], h2⟩
  · obtain ⟨x, rest, e, z, h1, h2⟩ := foldI_sound (P := P) (w := w) (g := Builtin.min2) (fun k k' a b => by simp [Builtin.min2, min2A_eq]) hx h
    exact ⟨z, by simp [builtin, Builtin.min_, e, h1], h2⟩
  · cases h

/-! ### all of them -/
theorem repO_evoO {tm : Tm} {a : Act} (x : Option Operand) (h : ∀ y, x = some y → RepV E (evo tm y) (a.eval y)) : RepO E (evoO tm x) (x.map a.eval) := by
  cases x with
  | none => trivial
  | some x => exact h x rfl

theorem opReadA_sound {h : AH} (hH : RepH P E h.get w) {tm : Tm} {a : Act} {o : Oper} (hT : ∀ x ∈ o.op.operands, RepV E (evo tm x) (a.eval x)) {y : AV} (hr : opReadA P h tm o.op = some y) :
    ∃ u, (execOp a.eval o).run P w = .ok (.value u) w ∧ RepV E y u := by
  have fin : ∀ {s : Sem Value}, Yl P E w s y → execOp a.eval o = (do pure (.value (← s))) → ∃ u, (execOp a.eval o).run P w = .ok (.value u) w ∧ RepV E y u := by
    intro s ⟨u, h1, h2⟩ e
    exact ⟨u, by rw [e]; simp [h1], h2⟩
  cases hop : o.op <;> rw [hop] at hr hT <;> simp only [opReadA] at hr <;> try cases hr
  case move.refl x => exact ⟨a.eval x, by simp [execOp, hop], hT x (by simp [Op.operands])⟩
  case assign.refl x => exact ⟨a.eval x, by simp [execOp, hop], hT x (by simp [Op.operands])⟩
  case pick c x z =>
    obtain ⟨u, h1, h2⟩ := pickA_sound (P := P) (w := w) (hT c (by simp [Op.operands])) (hT x (by simp [Op.operands])) (hT z (by simp [Op.operands])) hr
    exact ⟨u, by
      simp only [execOp, hop, Sem.run_bind, Sem.run_pure] at h1 ⊢
      cases hb : (asBool (a.eval c)).run P w with
      | ok b w' => (rw [hb] at h1; simp only [Result.andThen_ok] at h1 ⊢; cases h1; rfl)
      | halt hh w' => (rw [hb] at h1; cases h1), h2⟩
  case build t parts =>
    have hp := repP_evoP (E := E) (tm := tm) (a := a) parts.toList (fun x hx => hT x.2 (by simp only [Op.operands]; simp; exact ⟨x.1, by simpa using hx⟩))
    obtain ⟨pl⟩ := parts
    refine fin (buildA_sound (parts := (⟨pl⟩ : Array (Nat × Operand)).map fun x => (x.1, a.eval x.2)) (by simpa using hp) hr) ?_
    simp [execOp, hop]
  case load t x => exact fin (loadA_sound hH (hT x (by simp [Op.operands])) hr) (by simp [execOp, hop])
  case nilCheck x =>
    have hx := hT x (by simp [Op.operands])
    have e := nilCheckA_some hr
    subst e
    refine ⟨a.eval x, ?_, hx⟩
    have key : ∀ u, a.eval x = u → ((∃ p, u = .pointer (some p)) ∨ (∃ t v, u = .iface t v) ∨ ∃ f p q, u = .func (.func f) p q) → (execOp a.eval o).run P w = .ok (.value u) w := by
      intro u hu hm
      simp only [execOp, hop, hu]
      rcases hm with ⟨p, rfl⟩ | ⟨t, v, rfl⟩ | ⟨f, p, q, rfl⟩ <;> rfl
    refine key _ rfl ?_
    generalize evo tm x = z at hx hr
    cases z <;> simp only [nilCheckA] at hr <;> try cases hr
    all_goals simp only [RepV] at hx
    · obtain ⟨b, o, hx, _⟩ := hx; exact .inl ⟨_, hx⟩
    · obtain ⟨b, o, c, hx, _⟩ := hx; exact .inl ⟨_, hx⟩
    · exact .inl ⟨_, hx⟩
    · rename_i f _ _
      obtain ⟨f', p, q, hx, hf, _⟩ := hx
      cases f <;> simp at hr
      simp only [FnOk] at hf
      subst hf
      exact .inr (.inr ⟨_, _, _, hx⟩)
    · obtain ⟨v, hx, _⟩ := hx; exact .inr (.inl ⟨_, _, hx⟩)
  case binOp op t x z k => exact fin (binA_sound (hT x (by simp [Op.operands])) (hT z (by simp [Op.operands])) hr) (by simp [execOp, hop])
  case unOp op t x => exact fin (unA_sound (hT x (by simp [Op.operands])) hr) (by simp [execOp, hop])
  case convert s d x => exact fin (convA_sound (P := P) hH (hT x (by simp [Op.operands])) hr) (by simp [execOp, hop])
  case makeInterface t x => exact fin (ifaceA_sound (hT x (by simp [Op.operands])) hr) (by simp [execOp, hop])
  case makeFunc f first cap =>
    refine ⟨.func f (first.map a.eval) (cap.map a.eval), by simp [execOp, hop, Instr.makeFunc], ?_⟩
    have hy : y = .fn f (evos tm first.toList) (evos tm cap.toList) ∧ FnOk E f f := by
      cases f <;> simp at hr <;> exact ⟨hr.symm, rfl⟩
    rw [hy.1]
    simp only [RepV]
    exact ⟨_, _, _, rfl, hy.2, by simpa using repL_evos (E := E) (tm := tm) (a := a) first.toList (fun x hx => hT x (by simp [Op.operands]; exact .inl (by simpa using hx))), by simpa using repL_evos (E := E) (tm := tm) (a := a) cap.toList (fun x hx => hT x (by simp [Op.operands]; exact .inr (by simpa using hx)))⟩
  case fieldAddr s x f => exact fin (fieldAddrA_sound (hT x (by simp [Op.operands])) hr) (by simp [execOp, hop])
  case field t x f => exact fin (fieldA_sound (hT x (by simp [Op.operands])) hr) (by simp [execOp, hop])
  case indexAddr t x ix => exact fin (indexAddrA_sound (hT x (by simp [Op.operands])) (hT ix (by simp [Op.operands])) hr) (by simp [execOp, hop])
  case index t x ix => exact fin (indexA_sound (hT x (by simp [Op.operands])) (hT ix (by simp [Op.operands])) hr) (by simp [execOp, hop])
  case slice t x lo hi mx => exact fin (sliceA_sound (hT x (by simp [Op.operands])) (repO_evoO lo fun y hy => hT y (by simp [Op.operands, hy])) (repO_evoO hi fun y hy => hT y (by simp [Op.operands, hy])) (repO_evoO mx fun y hy => hT y (by simp [Op.operands, hy])) hr) (by simp [execOp, hop])
  case extract t i => exact fin (extractA_sound (hT t (by simp [Op.operands])) hr) (by simp [execOp, hop])
  case typeAssert x xt t ok => exact fin (typeAssertA_sound (xt := xt) (hT x (by simp [Op.operands])) hr) (by simp [execOp, hop])
  case call c =>
    split at hr
    · rename_i b hb
      have hx : RepL E (evos tm c.args.toList) (c.args.map a.eval).toList := by simpa using repL_evos (E := E) (tm := tm) (a := a) c.args.toList (fun x hx => hT x (by simp only [Op.operands, Call.operands]; simp; exact .inr (by simpa using hx)))
      obtain ⟨u, h1, h2⟩ := builtinA_sound (P := P) (w := w) hx hr o.type (c.args.map fun | .const _ => true | _ => false)
      refine ⟨u, ?_, h2⟩
      simp only [execOp, hop, resolve, hb, Sem.run_bind, Sem.run_pure, Result.andThen_ok, invoke]
      exact h1
    · cases hr

end Go.Proofs.YtckcgijepiejlaaGreat.Ae
