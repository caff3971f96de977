/-
  WHAT AN OPERATION YIELDS THAT WRITES NOTHING: what the evaluator tells is what the machine yields: first part: types, memory, numbers.
-/
import Derived.Test.YtckcgijepiejlaaGreatAeRep
namespace Go.Proofs.YtckcgijepiejlaaGreat.Ae
open Go
set_option linter.unusedVariables false
set_option linter.unusedSimpArgs false
set_option linter.unnecessarySimpa false
variable {P : Program} {E : Env} {w : World}

/-! ### Types -/
theorem run_und {t : TypeId} {d : TypeDesc} (h : P.underlying t = some d) : (underlying t).run P w = .ok d w := by
  simp [underlying, h]
theorem run_info {t : TypeId} {i : TypeInfo} (h : P.info? t = some i) : (typeInfo t).run P w = .ok i w := by
  simp [typeInfo, h]
theorem run_sz {t : TypeId} {n : Nat} (h : szOf P t = some n) : (sizeOf t).run P w = .ok n w := by
  unfold szOf at h
  cases hi : P.info? t with
  | none => simp [hi] at h
  | some i => simp [hi] at h; simp [sizeOf, run_info hi, h]
theorem zeroA_some {t : TypeId} {z : AV} (h : zeroA P t = some z) : ∃ i v, P.info? t = some i ∧ i.zero = some v ∧ z = toAV v := by
  unfold zeroA at h
  cases hi : P.info? t with
  | none => simp [hi] at h
  | some i =>
    cases hz : i.zero with
    | none => simp [hi, hz] at h
    | some v => simp [hi, hz] at h; exact ⟨i, v, rfl, hz, h.symm⟩
theorem run_zero {t : TypeId} {z : AV} (h : zeroA P t = some z) : ∃ v, (zeroValue t).run P w = .ok v w ∧ z = toAV v := by
  obtain ⟨i, v, hi, hz, rfl⟩ := zeroA_some h
  exact ⟨v, by simp [zeroValue, run_info hi, hz], rfl⟩
theorem repL_toAV_cells (E : Env) (v : Value) : RepL E (toAV v).cells v.cells.toList := by
  have h := repV_toAV E v
  by_cases hx : ∃ u, toAV v = .raw u
  · obtain ⟨u, hu⟩ := hx
    rw [hu] at h ⊢
    have : v = u := by simpa only [RepV] using h
    subst this
    have e : v.cells = #[v] := by
      cases v <;> first | rfl | (simp only [toAV] at hu; cases hu)
    rw [e]
    exact RepL.cons h RepL.nil
  · exact h.cells fun u hu => absurd ⟨u, hu⟩ hx
theorem run_agg {t : TypeId} {b : Bool} (h : isAggT P t = some b) : (isAgg t).run P w = .ok b w := by
  unfold isAggT at h
  cases hu : P.underlying t with
  | none => simp [hu, isAggD] at h
  | some d =>
    simp only [isAgg, Sem.run_bind, run_und hu, Result.andThen_ok]
    cases d <;> simp [hu, isAggD] at h <;> subst h <;> rfl
theorem isAgg_true {t : TypeId} (h : isAggT P t = some true) : ∃ d, P.underlying t = some d ∧ d.isRow = true := by
  unfold isAggT at h
  cases hu : P.underlying t with
  | none => simp [hu, isAggD] at h
  | some d => cases d <;> simp [hu, isAggD] at h <;> exact ⟨_, rfl, rfl⟩

/-! ### Memory -/
theorem takeN_eq : ∀ {n : Nat} {l r : List AV}, takeN n l = some r → r = l.take n ∧ r.length = n
  | 0, l, r, h => by
    have : takeN 0 l = some [] := rfl
    rw [this] at h; cases h; simp
  | n + 1, [], r, h => by
    have : takeN (n + 1) [] = none := rfl
    rw [this] at h; cases h
  | n + 1, c :: l, r, h => by
    have e : takeN (n + 1) (c :: l) = match takeN n l with | some r => some (c :: r) | none => none := consO_eq c (takeN n l)
    rw [e] at h
    cases h1 : takeN n l with
    | none => simp [h1] at h
    | some r1 =>
      simp [h1] at h
      obtain ⟨e1, e2⟩ := takeN_eq h1
      subst h; subst e1; simp at e2 ⊢; omega
theorem takeN_of : ∀ {n : Nat} {l : List AV}, n ≤ l.length → takeN n l = some (l.take n)
  | 0, l, _ => by simp; rfl
  | n + 1, [], h => by simp at h
  | n + 1, c :: l, h => by
    have e : takeN (n + 1) (c :: l) = match takeN n l with | some r => some (c :: r) | none => none := consO_eq c (takeN n l)
    rw [e, takeN_of (by simpa using h)]; simp
@[simp] theorem dropN_eq : ∀ (n : Nat) (l : List AV), dropN n l = l.drop n
  | 0, l => by simp; rfl
  | n + 1, [] => by simp; rfl
  | n + 1, c :: l => by
    have e : dropN (n + 1) (c :: l) = dropN n l := rfl
    rw [e, dropN_eq n l]; simp

/-- cells of a block, from a place on, in the world -/
theorem rangeAt_of {b : Nat} {c : Array Value} {t : TypeId} {z : Nat × Nat} (hw : w.heap[b]? = some (.cells c t z)) (o n : Nat) :
    w.rangeAt b o ((c.toList.drop o).take n) := by
  intro j v hj
  have h1 : c[o + j]? = some v := by
    rw [List.getElem?_take] at hj
    split at hj
    · rw [List.getElem?_drop] at hj
      simpa using hj
    · cases hj
  simp [World.cell?, hw, h1]

theorem rdRow_sound {g : Nat → Option Row} (hH : RepH P E g w) {id ver off n b o : Nat} {l : List AV} (h : rdRow ver off n (g id) = some l) {e : Ent}
    (he : E.ids id = some e) (hp : e.ver = ver → b = e.blk ∧ o = e.base + off) : ∃ vs, RepL E l vs ∧ w.rangeAt b o vs ∧ l.length = n ∧ vs.length = n := by
  cases hg : g id with
  | none => simp [hg, rdRow] at h
  | some r =>
    simp only [hg, rdRow] at h
    cases hft : r.fits ver with
    | true =>
      obtain ⟨hv, hlp⟩ := fits_true hft
      rw [hft, cond_true] at h
      obtain ⟨e', he', hev, hri, _⟩ := hH.rows id r hg
      obtain ⟨c, t, z, hc, hsz, hle, hz, hl⟩ := (hri.cells hlp).ex
      rw [he] at he'; cases he'
      obtain ⟨rfl, rfl⟩ := hp (hev.trans hv)
      rw [dropN_eq] at h
      obtain ⟨e1, e2⟩ := takeN_eq h
      subst e1
      have h1 := RepL.take n (RepL.drop off hl)
      refine ⟨_, h1, ?_, e2, ?_⟩
      · have e3 : (((c.toList.drop e.base).take r.cs.length).drop off).take n = (c.toList.drop (e.base + off)).take (min n (r.cs.length - off)) := by
          rw [List.drop_take, List.take_take, List.drop_drop]
        rw [e3]
        exact rangeAt_of hc _ _
      · rw [← h1.length, e2]
    | false => rw [hft, cond_false] at h; cases h

theorem fro_sound {g : Nat → Option Row} (hH : RepH P E g w) {b o n : Nat} {c : Array Value} {cs l : List AV} (hc : E.fro b = some c) (hl : RepL E cs ((c.toList.drop o).take cs.length))
    (h : takeN n cs = some l) : ∃ vs, RepL E l vs ∧ w.rangeAt b o vs ∧ l.length = n ∧ vs.length = n := by
  obtain ⟨t, z, hw⟩ := hH.fro b c hc
  obtain ⟨e1, e2⟩ := takeN_eq h
  subst e1
  have h1 := RepL.take n hl
  refine ⟨_, h1, ?_, e2, by rw [← h1.length, e2]⟩
  rw [List.take_take]
  exact rangeAt_of hw _ _

theorem rdCells_sound {h : AH} (hH : RepH P E h.get w) {n : Nat} {x : AV} {v : Value} (hx : RepV E x v) {l : List AV} (hr : rdCells h n x = some l) :
    ∃ b o vs, v = .pointer (some ⟨b, o, none⟩) ∧ RepL E l vs ∧ w.rangeAt b o vs ∧ l.length = n ∧ vs.length = n := by
  cases x <;> simp only [rdCells] at hr <;> try cases hr
  case ptr id ver off =>
    simp only [RepV] at hx
    obtain ⟨b, o, rfl, e, he, _, hp⟩ := hx
    obtain ⟨vs, h1, h2, h3, h4⟩ := rdRow_sound hH hr he hp
    exact ⟨b, o, vs, rfl, h1, h2, h3, h4⟩
  case fptr cs =>
    simp only [RepV] at hx
    obtain ⟨b, o, c, rfl, hc, hl⟩ := hx
    obtain ⟨vs, h1, h2, h3, h4⟩ := fro_sound hH hc hl hr
    exact ⟨b, o, vs, rfl, h1, h2, h3, h4⟩

theorem repV_agg {l : List AV} {vs : List Value} (h : RepL E l vs) : RepV E (.agg l) (.agg vs.toArray) := by
  simp only [RepV]; exact ⟨_, rfl, by simpa using h⟩

theorem aggO_some {o : Option (List AV)} {y : AV} (h : aggO o = some y) : ∃ l, o = some l ∧ y = .agg l := by
  cases o with
  | none => simp [aggO] at h
  | some l => simp [aggO] at h; exact ⟨l, rfl, h.symm⟩
theorem oneO_some {o : Option (List AV)} {y : AV} (h : oneO o = some y) : o = some [y] := by
  unfold oneO at h
  split at h
  · cases h; rfl
  · cases h

theorem loadA_sound {h : AH} (hH : RepH P E h.get w) {t : TypeId} {x y : AV} {v : Value} (hx : RepV E x v) (hl : loadA P h t x = some y) :
    ∃ u, (Instr.loadAt t v).run P w = .ok u w ∧ RepV E y u := by
  unfold loadA at hl
  split at hl
  · rename_i ha
    split at hl
    · rename_i n hn
      obtain ⟨l, hl2, rfl⟩ := aggO_some hl
      obtain ⟨b, o, vs, rfl, h1, h2, h3, h4⟩ := rdCells_sound hH hx hl2
      obtain ⟨d, hu, hd⟩ := isAgg_true ha
      refine ⟨_, run_loadAt_mid w b o t vs d h2 hu hd ?_, repV_agg h1⟩
      rw [h4]; exact hn
    · cases hl
  · rename_i ha
    have hl := oneO_some hl
    obtain ⟨b, o, vs, rfl, h1, h2, h3, h4⟩ := rdCells_sound hH hx hl
    obtain ⟨u, r, rfl, hy, hr⟩ := h1.uncons
    refine ⟨u, ?_, hy⟩
    have hc := h2 0 u (by simp)
    simp only [Nat.add_zero] at hc
    simp [Instr.loadAt, Instr.sureAddr, loadVar, run_agg ha, hc]
  · cases hl

theorem partA_sound {t : TypeId} {cs : List AV} {vs : Array Value} (hl : RepL E cs vs.toList) {off : Nat} {y : AV} (hp : partA P t cs off = some y) :
    ∃ u, (part t vs off).run P w = .ok u w ∧ RepV E y u := by
  unfold partA at hp
  split at hp
  · rename_i ha
    split at hp
    · rename_i n hn
      obtain ⟨l, hp2, rfl⟩ := aggO_some hp
      rw [dropN_eq] at hp2
      obtain ⟨rfl, e2⟩ := takeN_eq hp2
      have h1 := RepL.take n (RepL.drop off hl)
      refine ⟨.agg (vs.extract off (off + n)), by simp [part, run_agg ha, run_sz hn], ?_⟩
      simp only [RepV]
      refine ⟨_, rfl, ?_⟩
      have : (vs.extract off (off + n)).toList = (vs.toList.drop off).take n := by
        simp [Array.toList_extract]
      rw [this]; exact h1
    · cases hp
  · rename_i ha
    have hp := oneO_some hp
    rw [dropN_eq] at hp
    obtain ⟨e1, e2⟩ := takeN_eq hp
    have h1 := RepL.take 1 (RepL.drop off hl)
    rw [← e1] at h1
    obtain ⟨u, r, e3, hy, hr⟩ := h1.uncons
    refine ⟨u, ?_, hy⟩
    have e4 : vs[off]? = some u := by
      have : ((vs.toList.drop off).take 1)[0]? = some u := by rw [e3]; simp
      rw [List.getElem?_take, if_pos (by omega), List.getElem?_drop] at this
      simpa using this
    simp [part, run_agg ha, e4]
  · cases hp

/-! ### Numbers -/
theorem two_pow (k : Nat) : ((2 : Int) ^ k) = ((2 ^ k : Nat) : Int) := by simp

theorem wrapP_eq (k : IntKind) (m : Nat) : wrapP k m = k.wrap (.ofNat m) := by
  cases k <;> simp only [wrapP]
  · rw [nblt]
    by_cases h : m < 9223372036854775808
    · rw [decide_eq_true h, cond_true]
      unfold IntKind.wrap IntKind.bits IntKind.signed
      have e : (Int.ofNat m) % (2 ^ 64 : Int) = Int.ofNat m := Int.emod_eq_of_lt (by simp) (by show (m : Int) < _; omega)
      simp only [e]
      rw [if_neg]
      simp; omega
    · rw [decide_eq_false h, cond_false]
  all_goals
    unfold IntKind.wrap IntKind.bits IntKind.signed
    simp

theorem wrapA_eq (k : IntKind) (n : Int) : wrapA k n = k.wrap n := by
  cases n with
  | ofNat m => exact wrapP_eq k m
  | negSucc m => rfl

@[simp] theorem rInt_eq (k : IntKind) (n : Int) : rInt k n = some (.int k (k.wrap n)) := by simp [rInt, wrapA_eq]
@[simp] theorem rBool_eq (b : Bool) : rBool b = some (.bool b) := by simp [rBool]

theorem ltI_eq (a b : Int) : ltI a b = decide (a < b) := by
  cases a <;> cases b <;> simp only [ltI, nblt]
  · rename_i x y; congr 1; simp
  · rename_i x y; symm; simp; omega
  · rename_i x y; symm; simp; omega
  · rename_i x y; rw [decide_eq_decide]; omega
theorem eqI_eq (a b : Int) : eqI a b = (a == b) := by
  cases a <;> cases b <;> simp only [eqI, nbeq]
  · rename_i x y
    by_cases h : x = y
    · subst h; simp
    · simp [h]; omega
  · rename_i x y; symm; simp
  · rename_i x y; symm; simp
  · rename_i x y
    by_cases h : x = y
    · subst h; simp
    · simp [h]

theorem kcode_inj {a b : IntKind} (h : Nat.beq (kcode a) (kcode b) = true) : a = b := by
  have := nbeq_true h
  cases a <;> cases b <;> simp [kcode] at this <;> rfl

theorem wrap_mod (k : IntKind) (a b : Nat) (h : a % 2 ^ k.bits = b % 2 ^ k.bits) : k.wrap (.ofNat a) = k.wrap (.ofNat b) := by
  have e : ∀ m : Nat, (Int.ofNat m) % (2 ^ k.bits : Int) = Int.ofNat (m % 2 ^ k.bits) := by
    intro m
    rw [two_pow]
    exact (Int.natCast_emod m (2 ^ k.bits)).symm ▸ rfl
  unfold IntKind.wrap
  simp only [e, h]

theorem ofInt_ofNat (n x : Nat) : BitVec.ofInt n (.ofNat x) = BitVec.ofNat n x := by
  exact BitVec.ofInt_natCast n x

theorem bitsA_sound {f : Nat → Nat → Nat} {g : (w : Nat) → BitVec w → BitVec w → BitVec w}
    (hfg : ∀ n x y : Nat, f x y % 2 ^ n = (g n (BitVec.ofNat n x) (BitVec.ofNat n y)).toNat) (k : IntKind) (a b : Int) :
    bitsA f g k a b = some (.int k (k.wrap (g k.bits (BitVec.ofInt k.bits a) (BitVec.ofInt k.bits b)).toNat)) := by
  unfold bitsA
  cases a with
  | ofNat x =>
    cases b with
    | ofNat y =>
      simp only [rInt_eq, ofInt_ofNat]
      congr 2
      apply wrap_mod
      rw [hfg]
      exact (Nat.mod_eq_of_lt (BitVec.isLt _)).symm
    | negSucc y => simp only [rInt_eq]; rfl
  | negSucc x => simp only [rInt_eq]; rfl

theorem land_ok (n x y : Nat) : Nat.land x y % 2 ^ n = ((BitVec.ofNat n x) &&& (BitVec.ofNat n y)).toNat := by
  simp only [BitVec.toNat_and, BitVec.toNat_ofNat]
  exact Nat.and_mod_two_pow
theorem lor_ok (n x y : Nat) : Nat.lor x y % 2 ^ n = ((BitVec.ofNat n x) ||| (BitVec.ofNat n y)).toNat := by
  simp only [BitVec.toNat_or, BitVec.toNat_ofNat]
  exact Nat.or_mod_two_pow
theorem xor_ok (n x y : Nat) : Nat.xor x y % 2 ^ n = ((BitVec.ofNat n x) ^^^ (BitVec.ofNat n y)).toNat := by
  simp only [BitVec.toNat_xor, BitVec.toNat_ofNat]
  exact Nat.xor_mod_two_pow
theorem andNot_ok (n x y : Nat) : Nat.xor x (Nat.land x y) % 2 ^ n = ((BitVec.ofNat n x) &&& ~~~(BitVec.ofNat n y)).toNat := by
  rw [xor_ok]
  congr 1
  have : BitVec.ofNat n (Nat.land x y) = BitVec.ofNat n x &&& BitVec.ofNat n y := by
    apply BitVec.eq_of_toNat_eq
    rw [BitVec.toNat_ofNat, land_ok]
  rw [this]
  ext i hi
  simp
  cases (BitVec.ofNat n x)[i] <;> simp

theorem shl_ok (k : IntKind) (a : Int) (n : Nat) : shlA k a n = some (.int k (k.wrap (a * 2 ^ n))) := by
  cases a with
  | ofNat x =>
    simp only [shlA, rInt_eq]
    congr 3
    show ((x <<< n : Nat) : Int) = (x : Int) * 2 ^ n
    rw [Nat.shiftLeft_eq]; simp
  | negSucc x => simp only [shlA, rInt_eq]
theorem shr_ok (k : IntKind) (a : Int) (n : Nat) : shrA k a n = some (.int k (a.fdiv (2 ^ n))) := by
  cases a with
  | ofNat x =>
    simp only [shrA, forceN_eq]
    congr 2
    show ((x >>> n : Nat) : Int) = Int.fdiv (x : Int) (2 ^ n)
    rw [Nat.shiftRight_eq_div_pow, two_pow, Int.fdiv_eq_ediv_of_nonneg _ (Int.natCast_nonneg _)]
    exact Int.natCast_ediv x (2 ^ n)
  | negSucc x => simp only [shrA, forceI_eq]

theorem eqS_eq : ∀ a b : List UInt8, eqS a b = decide (a = b)
  | [], [] => by simp [eqS]
  | [], _ :: _ => by simp [eqS]
  | _ :: _, [] => by simp [eqS]
  | a :: x, b :: y => by
    simp only [eqS, eqS_eq x y, nbeq]
    have : (a.toNat = b.toNat) = (a = b) := by rw [UInt8.toNat_inj]
    simp [this]
theorem ltS_eq : ∀ a b : List UInt8, ltS a b = Op.bytesLess a b
  | [], [] => by simp [ltS, Op.bytesLess]
  | [], _ :: _ => by simp [ltS, Op.bytesLess]
  | _ :: _, [] => by simp [ltS, Op.bytesLess]
  | a :: x, b :: y => by
    simp only [ltS, Op.bytesLess, ltS_eq x y, nbeq, nblt]
    have e1 : (a.toNat < b.toNat) = (a < b) := by rw [UInt8.lt_iff_toNat_lt]
    have e2 : (a.toNat = b.toNat) = (a = b) := by rw [UInt8.toNat_inj]
    simp only [e1, e2]
    congr 2

end Go.Proofs.YtckcgijepiejlaaGreat.Ae
