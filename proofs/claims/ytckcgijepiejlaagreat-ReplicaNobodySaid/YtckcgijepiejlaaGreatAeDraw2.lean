/-
  A REGION THAT DRAWS ITS ORDER: the evaluator's own run of it, in the order of the text.
-/
import Derived.Test.YtckcgijepiejlaaGreatAeDraw1
namespace Go.Proofs.YtckcgijepiejlaaGreat.Ae
open Go
set_option linter.unusedVariables false
set_option linter.unusedSimpArgs false
set_option linter.unnecessarySimpa false
variable {P : Program}

def msk (ops : Array Oper) (i : Nat) : Nat := (Region.before ops).toList.getD i 0

/-- one operation of the evaluator's run -/
inductive DOp (P : Program) (call : CallF) (ops : Array Oper) (base i : Nat) (o : Oper) (d : Dr) : Dr → Prop where
  | skip (hw : wantedA ops.toList d.tmps o.guard = some false) : DOp P call ops base i o d ⟨setT d.tmps o.dst undefA, d.h0, d.hist, d.made, d.reads⟩
  | read {v : AV} (hw : wantedA ops.toList d.tmps o.guard = some true) (hr : opReadA P (addMade (msk ops i) d.made d.cur) d.tmps o.op = some v) (hm : memRead o.op = false) :
      DOp P call ops base i o d ⟨setT d.tmps o.dst v, d.h0, d.hist, d.made, d.reads⟩
  | mread {v : AV} (hw : wantedA ops.toList d.tmps o.guard = some true) (hm : memRead o.op = true) (hb : backA P d.made (msk ops i) d.tmps o.op v d.h0 d.hist = true) :
      DOp P call ops base i o d ⟨setT d.tmps o.dst v, d.h0, d.hist, d.made, (i, d.tmps, o.op, v) :: d.reads⟩
  | make {v : AV} {cs : List AV} (hw : wantedA ops.toList d.tmps o.guard = some true) (hr : opMakeA P d.tmps (base + i) o.op = some (v, cs)) (h1 : allOne cs = true) :
      DOp P call ops base i o d ⟨setT d.tmps o.dst v, d.h0, d.hist, (i, base + i, ⟨0, cs, none⟩) :: d.made, d.reads⟩
  | act {v : AV} {h : AH} (hw : wantedA ops.toList d.tmps o.guard = some true) (ha : waitsAll (msk ops i) d.hist = true)
      (hr : opActA P call (addMade (msk ops i) d.made d.cur) d.tmps (base + i) o.op = some (.next v h)) (hrr : rereads P (Region.before ops).toList (msk ops i) d.made h d.reads = true) :
      DOp P call ops base i o d ⟨setT d.tmps o.dst v, d.h0, (i, h) :: d.hist, d.made, d.reads⟩

theorem drawA_cons {call : CallF} {ops : List Oper} {bf : List Nat} {base : Nat} {o : Oper} {l : List Oper} {i : Nat} {d d' : Dr} (h : drawA P call ops bf base (o :: l) i d = some d') :
    guardSole ops bf i o.guard = true ∧ wantD (wantedA ops d.tmps o.guard) o d (drawK P call bf (bf.getD i 0) i (base + i) o d (kindA P o.op)) (fun d => drawA P call ops bf base l (i + 1) d) = some d' := by
  have e : drawA P call ops bf base (o :: l) i d = bif guardSole ops bf i o.guard then wantD (wantedA ops d.tmps o.guard) o d (forceN (base + i) fun id => drawK P call bf (bf.getD i 0) i id o d (kindA P o.op)) (fun d => forceN (i + 1) fun i => drawA P call ops bf base l i d) else none := rfl
  rw [e] at h
  cases hg : guardSole ops bf i o.guard with
  | false => rw [hg, cond_false] at h; cases h
  | true =>
    rw [hg, cond_true] at h
    simp only [forceN_eq] at h
    exact ⟨rfl, h⟩

theorem drawK_sound {call : CallF} {ops : Array Oper} {base i : Nat} {o : Oper} {d d' : Dr} (hw : wantedA ops.toList d.tmps o.guard = some true)
    (h : drawK P call (Region.before ops).toList (msk ops i) i (base + i) o d (kindA P o.op) = some d') : DOp P call ops base i o d d' := by
  unfold drawK at h
  split at h
  · unfold dReadK at h
    split at h
    · rename_i v hv
      have hk := putK_some h
      cases hm : memRead o.op with
      | false => rw [hm, cond_false] at hk; cases hk; exact .read hw hv hm
      | true =>
        rw [hm, cond_true] at hk
        cases hb : backA P d.made (msk ops i) d.tmps o.op v d.h0 d.hist with
        | false => rw [hb, cond_false] at hk; cases hk
        | true => rw [hb, cond_true] at hk; cases hk; exact .mread hw hm hb
    · cases h
  · unfold dMakeK at h
    split at h
    · rename_i v cs hv
      cases h1 : allOne cs with
      | false => rw [h1, cond_false] at h; cases h
      | true => rw [h1, cond_true] at h; have hk := putK_some h; cases hk; exact .make hw hv h1
    · cases h
  · cases ha : waitsAll (msk ops i) d.hist with
    | false => rw [ha, cond_false] at h; cases h
    | true =>
      rw [ha, cond_true] at h
      unfold dActK at h
      split at h
      · rename_i v h' hv
        cases hr : rereads P (Region.before ops).toList (msk ops i) d.made h' d.reads with
        | false => rw [hr, cond_false] at h; cases h
        | true => rw [hr, cond_true] at h; have hk := putK_some h; cases hk; exact .act hw ha hv hr
      · cases h

/-- the run, state by state -/
structure Run (P : Program) (call : CallF) (ops : Array Oper) (base : Nat) (ds : Nat → Dr) : Prop where
  op : ∀ i o, ops[i]? = some o → DOp P call ops base i o (ds i) (ds (i + 1))
  sole : ∀ i o, ops[i]? = some o → guardSole ops.toList (Region.before ops).toList i o.guard = true

theorem drawA_run {call : CallF} {ops : Array Oper} {base : Nat} : ∀ (l : List Oper) (i : Nat) (d d' : Dr), ops.toList.drop i = l → drawA P call ops.toList (Region.before ops).toList base l i d = some d' →
    ∃ ds : Nat → Dr, ds i = d ∧ ds (i + l.length) = d' ∧ (∀ j o, i ≤ j → ops[j]? = some o → DOp P call ops base j o (ds j) (ds (j + 1)) ∧ guardSole ops.toList (Region.before ops).toList j o.guard = true)
  | [], i, d, d', hl, h => by
    have e : drawA P call ops.toList (Region.before ops).toList base [] i d = some d := rfl
    rw [e] at h; cases h
    refine ⟨fun _ => d, rfl, rfl, ?_⟩
    intro j o hj ho
    have := congrArg List.length hl
    simp at this
    have := (Array.getElem?_eq_some_iff.1 ho).1
    omega
  | o :: l, i, d, d', hl, h => by
    have ho : ops[i]? = some o := by
      have : (ops.toList.drop i)[0]? = some o := by rw [hl]; rfl
      rw [List.getElem?_drop] at this
      simpa using this
    have hl' : ops.toList.drop (i + 1) = l := by
      have : (ops.toList.drop i).drop 1 = l := by rw [hl]; rfl
      rwa [List.drop_drop] at this
    obtain ⟨hs, h⟩ := drawA_cons h
    have fin : ∀ d1, DOp P call ops base i o d d1 → drawA P call ops.toList (Region.before ops).toList base l (i + 1) d1 = some d' →
        ∃ ds : Nat → Dr, ds i = d ∧ ds (i + (o :: l).length) = d' ∧ (∀ j o, i ≤ j → ops[j]? = some o → DOp P call ops base j o (ds j) (ds (j + 1)) ∧ guardSole ops.toList (Region.before ops).toList j o.guard = true) := by
      intro d1 h1 h2
      obtain ⟨ds, q1, q2, q3⟩ := drawA_run l (i + 1) d1 d' hl' h2
      refine ⟨fun j => if j = i then d else ds j, if_pos rfl, ?_, ?_⟩
      · dsimp only
        rw [if_neg (by simp only [List.length_cons]; omega), ← q2]
        congr 1; simp only [List.length_cons]; omega
      · intro j oj hj hoj
        dsimp only
        by_cases e : j = i
        · subst e
          rw [ho] at hoj; cases hoj
          rw [if_pos rfl, if_neg (by omega), q1]
          exact ⟨h1, hs⟩
        · rw [if_neg e, if_neg (by omega)]
          exact q3 j oj (by omega) hoj
    unfold wantD at h
    split at h
    · rename_i hw
      split at h
      · rename_i d1 hd1
        exact fin d1 (drawK_sound hw hd1) h
      · cases h
    · rename_i hw
      have hk := putK_some h
      exact fin _ (.skip hw) hk
    · cases h

theorem sole_sound {d g i : Nat} : ∀ (l : List Oper) (bf : List Nat) (k : Nat), sole d g i l bf k = true → ∀ j o, l[j]? = some o → o.dst = some d → k + j ≤ g ∨ (bf.getD j 0).testBit i = true
  | [], _, _, _, j, o, h, _ => by simp at h
  | o :: l, bf, k, h, j, o', ho', hd => by
    simp only [sole, forceN_eq, Bool.and_eq_true, Bool.or_eq_true] at h
    cases j with
    | zero =>
      simp at ho'; subst ho'
      rcases h.1 with h1 | h1 | h1
      · rw [hd] at h1
        simp only [notDst, nbeq, decide_true] at h1
        cases h1
      · left; rw [nble] at h1; simp at h1; omega
      · right; cases bf <;> simpa using h1
    | succ j =>
      simp at ho'
      rcases sole_sound l bf.tail (k + 1) h.2 j o' ho' hd with h1 | h1
      · left; omega
      · right; cases bf <;> simpa using h1

theorem guardSole_sound {ops : Array Oper} {i : Nat} {o : Oper} (h : guardSole ops.toList (Region.before ops).toList i o.guard = true) {g : Nat} {want : Bool} (hg : o.guard = some (g, want)) {d : Tmp} (hd : (ops[g]?).bind (·.dst) = some d)
    {k : Nat} {ok : Oper} (hk : ops[k]? = some ok) (hkd : ok.dst = some d) : k ≤ g ∨ bit ops k i = true := by
  unfold guardSole at h
  rw [hg] at h
  simp only at h
  have hopt : (ops.toList[g]?).bind (·.dst) = some d := by rw [← hd]; simp
  rw [hopt] at h
  simp only at h
  have := sole_sound ops.toList _ 0 h k ok (by simpa using hk) hkd
  simpa [bit] using this

theorem DOp.h0 {call : CallF} {ops : Array Oper} {base i : Nat} {o : Oper} {d d' : Dr} (h : DOp P call ops base i o d d') : d'.h0 = d.h0 := by cases h <;> rfl
theorem DOp.tmps {call : CallF} {ops : Array Oper} {base i : Nat} {o : Oper} {d d' : Dr} (h : DOp P call ops base i o d d') : ∃ v, d'.tmps = setT d.tmps o.dst v := by cases h <;> exact ⟨_, rfl⟩
theorem DOp.made {call : CallF} {ops : Array Oper} {base i : Nat} {o : Oper} {d d' : Dr} (h : DOp P call ops base i o d d') : d'.made = d.made ∨ ∃ r, d'.made = (i, base + i, r) :: d.made := by
  cases h <;> first | exact .inl rfl | exact .inr ⟨_, rfl⟩
theorem DOp.hist {call : CallF} {ops : Array Oper} {base i : Nat} {o : Oper} {d d' : Dr} (h : DOp P call ops base i o d d') : d'.hist = d.hist ∨ ∃ h, d'.hist = (i, h) :: d.hist := by
  cases h <;> first | exact .inl rfl | exact .inr ⟨_, rfl⟩
theorem DOp.reads {call : CallF} {ops : Array Oper} {base i : Nat} {o : Oper} {d d' : Dr} (h : DOp P call ops base i o d d') : ∀ r ∈ d.reads, r ∈ d'.reads := by
  cases h <;> intro r hr <;> first | exact hr | exact .tail _ hr

theorem setT_ne {tm : Tm} {dst : Option Tmp} {v : AV} {t : Nat} (h : dst ≠ some t) : (setT tm dst v).val t = tm.val t := by
  cases dst with
  | none => rfl
  | some d =>
    unfold setT
    rw [Tm.val_set, if_neg]
    intro e; exact h (by rw [e])
theorem setT_eq {tm : Tm} {v : AV} {t : Nat} : (setT tm (some t) v).val t = v := by
  unfold setT
  rw [Tm.val_set, if_pos rfl]

section run
variable {call : CallF} {ops : Array Oper} {base : Nat} {ds : Nat → Dr}

theorem Run.at (R : Run P call ops base ds) {i : Nat} (h : i < ops.size) : ∃ o, ops[i]? = some o ∧ DOp P call ops base i o (ds i) (ds (i + 1)) := by
  have ho : ops[i]? = some ops[i] := by simp
  exact ⟨_, ho, R.op i _ ho⟩

theorem Run.h0 (R : Run P call ops base ds) : ∀ i, i ≤ ops.size → (ds i).h0 = (ds 0).h0
  | 0, _ => rfl
  | i + 1, h => by
    obtain ⟨o, ho, hop⟩ := R.at (i := i) (by omega)
    rw [hop.h0, R.h0 i (by omega)]

/-- a slot that nobody writes between -/
theorem Run.still (R : Run P call ops base ds) {i : Nat} {t : Nat} : ∀ j, i ≤ j → j ≤ ops.size → (∀ k o, i ≤ k → k < j → ops[k]? = some o → o.dst ≠ some t) → (ds j).tmps.val t = (ds i).tmps.val t
  | 0, h, _, _ => by have : i = 0 := by omega
                     subst this; rfl
  | j + 1, h, hj, hn => by
    by_cases e : i = j + 1
    · subst e; rfl
    · obtain ⟨o, ho, hop⟩ := R.at (i := j) (by omega)
      obtain ⟨v, hv⟩ := hop.tmps
      rw [hv, setT_ne (hn j o (by omega) (by omega) ho), R.still j (by omega) (by omega) fun k o' h1 h2 h3 => hn k o' h1 (by omega) h3]

theorem Run.made_at (R : Run P call ops base ds) (h0 : (ds 0).made = []) : ∀ i, i ≤ ops.size → (∀ p ∈ (ds i).made, p.1 < i ∧ p.2.1 = base + p.1) ∧ Uniq (ds i).made
  | 0, _ => by rw [h0]; exact ⟨fun p hp => (by cases hp), fun p hp => (by cases hp)⟩
  | i + 1, h => by
    obtain ⟨o, ho, hop⟩ := R.at (i := i) (by omega)
    obtain ⟨h1, h2⟩ := R.made_at h0 i (by omega)
    rcases hop.made with e | ⟨r, e⟩
    · rw [e]; exact ⟨fun p hp => ⟨by have := (h1 p hp).1; omega, (h1 p hp).2⟩, h2⟩
    · rw [e]
      refine ⟨?_, ?_⟩
      · intro p hp
        rcases List.mem_cons.1 hp with rfl | hp
        · exact ⟨by simp, rfl⟩
        · exact ⟨by have := (h1 p hp).1; omega, (h1 p hp).2⟩
      · intro p hp q hq hpq
        rcases List.mem_cons.1 hp with rfl | hp <;> rcases List.mem_cons.1 hq with rfl | hq
        · rfl
        · have := h1 q hq; simp only at hpq; omega
        · have := h1 p hp; simp only at hpq; omega
        · exact h2 p hp q hq hpq

theorem Run.made_le (R : Run P call ops base ds) (h0 : (ds 0).made = []) {i : Nat} : ∀ j, i ≤ j → j ≤ ops.size → ∃ l, (ds j).made = l ++ (ds i).made ∧ ∀ p ∈ l, i ≤ p.1
  | 0, h, _ => by have : i = 0 := by omega
                  subst this; exact ⟨[], rfl, by simp⟩
  | j + 1, h, hj => by
    by_cases e : i = j + 1
    · subst e; exact ⟨[], rfl, by simp⟩
    · obtain ⟨o, ho, hop⟩ := R.at (i := j) (by omega)
      obtain ⟨l, h1, h2⟩ := R.made_le h0 (i := i) j (by omega) (by omega)
      rcases hop.made with e | ⟨r, e⟩
      · exact ⟨l, by rw [e, h1], h2⟩
      · refine ⟨(j, base + j, r) :: l, by rw [e, h1]; rfl, ?_⟩
        intro p hp
        rcases List.mem_cons.1 hp with rfl | hp
        · simp only; omega
        · exact h2 p hp

theorem Run.hist_le (R : Run P call ops base ds) {i : Nat} : ∀ j, i ≤ j → j ≤ ops.size → ∃ l, (ds j).hist = l ++ (ds i).hist ∧ ∀ p ∈ l, i ≤ p.1 ∧ p.1 < j
  | 0, h, _ => by have : i = 0 := by omega
                  subst this; exact ⟨[], rfl, by simp⟩
  | j + 1, h, hj => by
    by_cases e : i = j + 1
    · subst e; exact ⟨[], rfl, by simp⟩
    · obtain ⟨o, ho, hop⟩ := R.at (i := j) (by omega)
      obtain ⟨l, h1, h2⟩ := R.hist_le (i := i) j (by omega) (by omega)
      rcases hop.hist with e | ⟨r, e⟩
      · exact ⟨l, by rw [e, h1], fun p hp => by have := h2 p hp; omega⟩
      · refine ⟨(j, r) :: l, by rw [e, h1]; rfl, ?_⟩
        intro p hp
        rcases List.mem_cons.1 hp with rfl | hp
        · simp only; omega
        · have := h2 p hp; omega

theorem Run.reads_le (R : Run P call ops base ds) {i : Nat} {r : Nat × Tm × Op × AV} : ∀ j, i ≤ j → j ≤ ops.size → r ∈ (ds i).reads → r ∈ (ds j).reads
  | 0, h, _, hr => by have : i = 0 := by omega
                      subst this; exact hr
  | j + 1, h, hj, hr => by
    by_cases e : i = j + 1
    · subst e; exact hr
    · obtain ⟨o, ho, hop⟩ := R.at (i := j) (by omega)
      exact hop.reads r (R.reads_le j (by omega) (by omega) hr)

/-- the heap behind the last of a set that acts -/
def latest (S : Nat → Bool) (h0 : AH) : List (Nat × AH) → AH
  | [] => h0
  | p :: l => if S p.1 = true then p.2 else latest S h0 l

theorem latest_cur {mask : Nat} {S : Nat → Bool} (hS : ∀ k, Nat.testBit mask k = true → S k = true) {d : Dr} (h : waitsAll mask d.hist = true) : latest S d.h0 d.hist = d.cur := by
  unfold Dr.cur
  cases hh : d.hist with
  | nil => rfl
  | cons p l =>
    rw [hh] at h
    simp only [waitsAll, Bool.and_eq_true] at h
    simp only [latest]
    rw [if_pos (hS _ h.1)]
theorem waitsAll_mem {mask : Nat} : ∀ {l : List (Nat × AH)}, waitsAll mask l = true → ∀ p ∈ l, Nat.testBit mask p.1 = true
  | [], _, p, hp => by cases hp
  | q :: l, h, p, hp => by
    simp only [waitsAll, Bool.and_eq_true] at h
    rcases List.mem_cons.1 hp with rfl | hp
    · exact h.1
    · exact waitsAll_mem h.2 p hp
theorem latest_back {made : List (Nat × Nat × Row)} {mask : Nat} {tm : Tm} {op : Op} {v : AV} {h0 : AH} {S : Nat → Bool} (hS : ∀ k, Nat.testBit mask k = true → S k = true) : ∀ {l : List (Nat × AH)}, backA P made mask tm op v h0 l = true →
    readAt P made mask tm op v (latest S h0 l) = true
  | [], h => h
  | p :: l, h => by
    simp only [backA, Bool.and_eq_true, Bool.or_eq_true] at h
    simp only [latest]
    split
    · exact h.1
    · rename_i hn
      rcases h.2 with h2 | h2
      · exact absurd (hS _ h2) hn
      · exact latest_back hS h2
theorem rereads_mem {bf : List Nat} {mask : Nat} {made : List (Nat × Nat × Row)} {h : AH} : ∀ {l : List (Nat × Tm × Op × AV)}, rereads P bf mask made h l = true → ∀ r ∈ l, Nat.testBit mask r.1 = false → readAt P made (bf.getD r.1 0) r.2.1 r.2.2.1 r.2.2.2 h = true
  | [], _, r, hr, _ => by cases hr
  | q :: l, hh, r, hr, hn => by
    simp only [rereads, Bool.and_eq_true, Bool.or_eq_true] at hh
    rcases List.mem_cons.1 hr with rfl | hr
    · rcases hh.1 with h1 | h1
      · rw [hn] at h1; cases h1
      · exact h1
    · exact rereads_mem hh.2 r hr hn
theorem addMade_more {mask : Nat} {h : AH} {made : List (Nat × Nat × Row)} : ∀ (l : List (Nat × Nat × Row)), (∀ p ∈ l, Nat.testBit mask p.1 = false) → addMade mask (l ++ made) h = addMade mask made h
  | [], _ => rfl
  | p :: l, hl => by
    rw [List.cons_append]
    simp only [addMade]
    rw [hl p (.head _), cond_false]
    exact addMade_more l fun q hq => hl q (.tail _ hq)

/-- What reads, in whatever state it may come, reads what it read. -/
theorem Run.read_at (R : Run P call ops base ds) (hg : DrawGood P ops) (h0 : (ds 0).made = []) {i : Nat} {o : Oper} {v : AV} (ho : ops[i]? = some o) (hb : backA P (ds i).made (msk ops i) (ds i).tmps o.op v (ds i).h0 (ds i).hist = true)
    (hm : (i, (ds i).tmps, o.op, v) ∈ (ds (i + 1)).reads) (hh : (ds (i + 1)).hist = (ds i).hist) {S : Nat → Bool} (hS : ∀ k, bit ops i k = true → S k = true) (hC : Closed ops S) (hi : S i = false) :
    ∀ j, i + 1 ≤ j → j ≤ ops.size → readAt P (ds i).made (msk ops i) (ds i).tmps o.op v (latest S (ds 0).h0 (ds j).hist) = true
  | 0, h, _ => by omega
  | j + 1, h, hj => by
    have hlt := (Array.getElem?_eq_some_iff.1 ho).1
    by_cases e : i = j
    · subst e
      rw [hh, ← R.h0 i (by omega)]
      exact latest_back (S := S) hS hb
    · obtain ⟨oj, hoj, hop⟩ := R.at (i := j) (by omega)
      have ih := R.read_at hg h0 ho hb hm hh hS hC hi j (by omega) (by omega)
      have hr := R.reads_le j (by omega) (by omega) hm
      generalize ds (j + 1) = dj at hop ⊢
      cases hop with
      | act hw ha hrun hrr =>
        simp only [latest]
        split
        · rename_i hSj
          have hbit : bit ops j i = false := by
            cases hbt : bit ops j i with
            | false => rfl
            | true => have := Closed.bit hg hC hSj hbt; rw [hi] at this; cases this
          have h1 := rereads_mem hrr _ hr hbit
          simp only at h1
          obtain ⟨l, h2, h3⟩ := R.made_le h0 (i := i) j (by omega) (by omega)
          have hmore := fun h' => addMade_more (mask := msk ops i) (h := h') (made := (ds i).made) l (fun p hp => by
            cases hbt : Nat.testBit (msk ops i) p.1 with
            | false => rfl
            | true => have := bit_lt hg i p.1 hbt; have := h3 p hp; omega)
          unfold readAt at h1 ⊢
          rw [h2] at h1
          have h1' : sameO (opReadA P (addMade (msk ops i) (l ++ (ds i).made) _) (ds i).tmps o.op) v = true := h1
          rw [hmore] at h1'
          exact h1'
        · exact ih
      | _ => exact ih

/-- What acts: before it the last that acted is the one that was the last. -/
theorem Run.act_before (R : Run P call ops base ds) (hg : DrawGood P ops) {i : Nat} {o : Oper} {h : AH} (ho : ops[i]? = some o) (ha : waitsAll (msk ops i) (ds i).hist = true) (hh : (ds (i + 1)).hist = (i, h) :: (ds i).hist)
    {S : Nat → Bool} (hS : ∀ k, bit ops i k = true → S k = true) (hC : Closed ops S) (hi : S i = false) :
    ∀ j, i + 1 ≤ j → j ≤ ops.size → (i, h) ∈ (ds j).hist ∧ latest S (ds 0).h0 (ds j).hist = (ds i).cur ∧ latest (fun k => k == i || S k) (ds 0).h0 (ds j).hist = h
  | 0, h, _ => by omega
  | j + 1, h, hj => by
    have hlt := (Array.getElem?_eq_some_iff.1 ho).1
    by_cases e : i = j
    · subst e
      rw [hh, ← R.h0 i (by omega)]
      refine ⟨.head _, ?_, ?_⟩
      · simp only [latest, hi, Bool.false_eq_true, if_false]
        exact latest_cur (S := S) hS ha
      · simp [latest]
    · obtain ⟨oj, hoj, hop⟩ := R.at (i := j) (by omega)
      obtain ⟨h1, h2, h3⟩ := R.act_before hg ho ha hh hS hC hi j (by omega) (by omega)
      generalize ds (j + 1) = dj at hop ⊢
      cases hop with
      | act hw ha' hrun hrr =>
        have hbit : bit ops j i = true := waitsAll_mem ha' _ h1
        have hSj : S j = false := by
          cases hb : S j with
          | false => rfl
          | true => have := Closed.bit hg hC hb hbit; rw [hi] at this; cases this
        refine ⟨.tail _ h1, ?_, ?_⟩
        · simp only [latest, hSj, Bool.false_eq_true, if_false]; exact h2
        · simp only [latest, hSj, Bool.or_false, beq_iff_eq, Ne.symm e, if_false]; exact h3
      | _ => exact ⟨h1, h2, h3⟩

/-- what does not act is not among those that acted -/
theorem Run.mute (R : Run P call ops base ds) (hh0 : (ds 0).hist = []) {i : Nat} (hlt : i < ops.size) (hh : (ds (i + 1)).hist = (ds i).hist) (S : Nat → Bool) :
    latest (fun k => k == i || S k) (ds 0).h0 (ds ops.size).hist = latest S (ds 0).h0 (ds ops.size).hist := by
  have hno : ∀ p ∈ (ds ops.size).hist, p.1 ≠ i := by
    obtain ⟨l, h1, h2⟩ := R.hist_le (i := i + 1) ops.size (by omega) (Nat.le_refl _)
    obtain ⟨l0, h3, h4⟩ := R.hist_le (i := 0) i (by omega) (by omega)
    rw [h1, hh, h3, hh0]
    intro p hp
    rcases List.mem_append.1 hp with hp | hp
    · have := h2 p hp; omega
    · rw [List.append_nil] at hp
      have := h4 p hp; omega
  generalize (ds ops.size).hist = l at *
  induction l with
  | nil => rfl
  | cons p l ih =>
    have h1 := hno p (.head _)
    have h2 := ih fun q hq => hno q (.tail _ hq)
    simp only [latest]
    have e : (p.1 == i || S p.1) = S p.1 := by
      have : (p.1 == i) = false := by simpa using h1
      rw [this, Bool.false_or]
    simp only [e, h2]
theorem madeAt_mute {made : List (Nat × Nat × Row)} {i : Nat} {S : Nat → Bool} (h : ∀ p ∈ made, p.1 ≠ i) : madeAt (fun k => k == i || S k) made = madeAt S made := by
  funext id
  induction made with
  | nil => rfl
  | cons p l ih =>
    have h1 := h p (.head _)
    have h2 := ih fun q hq => h q (.tail _ hq)
    simp only [madeAt]
    have e : (p.1 == i || S p.1) = S p.1 := by
      have : (p.1 == i) = false := by simpa using h1
      rw [this, Bool.false_or]
    simp only [e, h2]
theorem Run.unmade (R : Run P call ops base ds) (hm0 : (ds 0).made = []) {i : Nat} (hlt : i < ops.size) (hh : (ds (i + 1)).made = (ds i).made) : ∀ p ∈ (ds ops.size).made, p.1 ≠ i := by
  obtain ⟨l, h1, h2⟩ := R.made_le hm0 (i := i + 1) ops.size (by omega) (Nat.le_refl _)
  rw [h1, hh]
  intro p hp
  rcases List.mem_append.1 hp with hp | hp
  · have := h2 p hp; omega
  · have := ((R.made_at hm0 i (by omega)).1 p hp).1; omega
end run

end Go.Proofs.YtckcgijepiejlaaGreat.Ae
