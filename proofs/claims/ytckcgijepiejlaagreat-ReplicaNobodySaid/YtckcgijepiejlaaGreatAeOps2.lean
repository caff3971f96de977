/-
  WHAT AN OPERATION YIELDS THAT WRITES NOTHING: third part: slices, conversions, tests, numbers.
-/
import Derived.Test.YtckcgijepiejlaaGreatAeOps
import Derived.Laws.BytesString
namespace Go.Proofs.YtckcgijepiejlaaGreat.Ae
open Go
set_option linter.unusedVariables false
set_option linter.unusedSimpArgs false
set_option linter.unnecessarySimpa false
variable {P : Program} {E : Env} {w : World}

def RepO (E : Env) : Option AV → Option Value → Prop
  | none, none => True
  | some x, some v => RepV E x v
  | _, _ => False

/-! ### slice expressions -/
theorem sliceBound_ok {x : AV} {v : Value} (hx : RepV E x v) {y Y n : Nat} (h : ((asI x).bind fun i => upA i y) = some n) (hy : y ≤ Y) (code : BoundsCode) :
    (Instr.sliceBound v Y code).run P w = .ok n w ∧ n ≤ y := by
  obtain ⟨i, hi, h1⟩ := bind_some h
  clear h
  obtain ⟨k, rfl⟩ := asI_some hi
  clear hi
  obtain ⟨rfl, hn⟩ := upA_some h1
  simp only [RepV] at hx; subst hx
  refine ⟨?_, hn⟩
  have h1 : n ≤ Y := by omega
  simp [Instr.sliceBound, asIntOf, h1]

theorem sliceBounds_sound {hi mx lo : Option AV} {vhi vmx vlo : Option Value} (rh : RepO E hi vhi) (rm : RepO E mx vmx) (rl : RepO E lo vlo) {most len C : Nat} {hm : Nat × Option Nat} {l : Nat}
    (h : highA hi mx most len = some hm) (h2 : boundA lo hm.1 0 = some l) (hC : most ≤ C) (isS : Bool) :
    (Instr.sliceBounds isS len C vlo vhi vmx).run P w = .ok (l, hm.1, hm.2.getD C) w ∧ l ≤ hm.1 ∧ (hm.2 = none → hm.1 ≤ max most len) ∧ (∀ m, hm.2 = some m → hm.1 ≤ m ∧ m ≤ most) := by
  obtain ⟨h1, mo⟩ := hm
  simp only at h2
  have key : l ≤ h1 ∧ ((vlo = none ∧ l = 0) ∨ ∃ v, vlo = some v ∧ ∀ code, (Instr.sliceBound v h1 code).run P w = .ok l w) := by
    cases lo with
    | none =>
      cases vlo with
      | none => simp [boundA] at h2; subst h2; exact ⟨by omega, .inl ⟨rfl, rfl⟩⟩
      | some v => exact rl.elim
    | some x =>
      cases vlo with
      | none => exact rl.elim
      | some v =>
        simp only [boundA] at h2
        exact ⟨(sliceBound_ok (P := P) (w := w) rl h2 (Nat.le_refl _) .index).2, .inr ⟨v, rfl, fun code => (sliceBound_ok rl h2 (Nat.le_refl _) code).1⟩⟩
  obtain ⟨hl2, hl1⟩ := key
  unfold highA at h
  cases mx with
  | none =>
    cases vmx with
    | some v => exact rm.elim
    | none =>
      simp only at h
      obtain ⟨h', hb, e⟩ := bind_some h
      cases e
      cases hi with
      | none =>
        cases vhi with
        | some v => exact rh.elim
        | none =>
          simp [boundA] at hb; subst hb
          refine ⟨?_, hl2, fun _ => by omega, fun m hm => by cases hm⟩
          rcases hl1 with ⟨rfl, rfl⟩ | ⟨v0, rfl, hl1⟩
          · simp [Instr.sliceBounds]
          · simp [Instr.sliceBounds, hl1]
      | some x =>
        cases vhi with
        | none => exact rh.elim
        | some v =>
          simp only [boundA] at hb
          obtain ⟨e1, e2⟩ := sliceBound_ok (P := P) (w := w) (Y := C) rh hb hC (if isS then .sliceAcap else .sliceAlen)
          refine ⟨?_, hl2, fun _ => by omega, fun m hm => by cases hm⟩
          rcases hl1 with ⟨rfl, rfl⟩ | ⟨v0, rfl, hl1⟩
          · simp [Instr.sliceBounds, e1]
          · simp [Instr.sliceBounds, hl1, e1]
  | some m =>
    cases vmx with
    | none => exact rm.elim
    | some vm =>
      cases hi with
      | none => simp at h
      | some x =>
        cases vhi with
        | none => exact rh.elim
        | some v =>
          simp only at h
          obtain ⟨mm, hmm, h⟩ := bind_some h
          obtain ⟨h', hb, e⟩ := bind_some h
          cases e
          simp only [boundA] at hmm hb
          obtain ⟨e1, e2⟩ := sliceBound_ok (P := P) (w := w) (Y := C) rm hmm hC (if isS then .slice3Acap else .slice3Alen)
          obtain ⟨e3, e4⟩ := sliceBound_ok (P := P) (w := w) (Y := mm) rh hb (Nat.le_refl _) .slice3B
          refine ⟨?_, hl2, (fun hm => by cases hm), (fun m hm => by cases hm; exact ⟨e4, e2⟩)⟩
          rcases hl1 with ⟨rfl, rfl⟩ | ⟨v0, rfl, hl1⟩
          · simp [Instr.sliceBounds, e1, e3]
          · simp [Instr.sliceBounds, hl1, e1, e3]

theorem capO_some {c : Option Nat} {l x : Nat} (h : capO c l = some x) : ∃ k, c = some k ∧ x = k - l := by
  cases c with
  | none => cases h
  | some k => cases h; exact ⟨k, rfl, rfl⟩

theorem sliceSl_sound {t e : TypeId} {s : Nat} (hu : P.underlying t = some (.slice e)) (hs : szOf P e = some s) {x y : AV} {v : Value} (hx : RepV E x v) {lo hi mx : Option AV} {vlo vhi vmx : Option Value}
    (rl : RepO E lo vlo) (rh : RepO E hi vhi) (rm : RepO E mx vmx) (h : sliceSl s x lo hi mx = some y) : Yl P E w (Instr.sliceAt t v vlo vhi vmx) y := by
  cases x <;> simp only [sliceSl] at h <;> try cases h
  case nils =>
    simp only [RepV] at hx; subst hx
    obtain ⟨hm, h1, h⟩ := bind_some h
    obtain ⟨l, h2, h⟩ := bind_some h
    cases h
    obtain ⟨e1, e2, e3, e4⟩ := sliceBounds_sound (P := P) (w := w) rh rm rl h1 h2 (Nat.le_refl 0) true
    have hm0 : hm.1 = 0 := by
      cases h0 : hm.2 with
      | none => have := e3 h0; simp at this; omega
      | some m => have := e4 m h0; omega
    have hl0 : l = 0 := by omega
    have hd : hm.2.getD 0 = 0 := by
      cases h0 : hm.2 with
      | none => rfl
      | some m => have := e4 m h0; simp; omega
    refine ⟨.slice none 0 0, ?_, by simp only [RepV]⟩
    simp [Instr.sliceAt, Instr.slice, run_und hu, e1, run_sz hs, hd, hl0, hm0]
  case sl id ver off sz len cap =>
    by_cases hsz : s = sz
    · subst hsz
      rw [nbeq, decide_eq_true rfl, cond_true] at h
      obtain ⟨hm, h1, h⟩ := bind_some h
      obtain ⟨l, h2, h⟩ := bind_some h
      simp only [mkSl, forceN_eq, forceO_eq] at h
      cases h
      simp only [RepV] at hx
      obtain ⟨b, o, capc, rfl, hlen, hcap, e', he, hv, hp⟩ := hx
      have hmost : mostO cap len ≤ capc := by
        cases cap with
        | none => exact hlen
        | some c => have := hcap c rfl; simp only [mostO]; omega
      obtain ⟨e1, e2, e3, e4⟩ := sliceBounds_sound (P := P) (w := w) rh rm rl h1 h2 hmost true
      have hh : hm.1 ≤ hm.2.getD capc := by
        cases h0 : hm.2 with
        | none => have := e3 h0; simp only [Option.getD_none, mostO] at *; omega
        | some m => have := e4 m h0; simp only [Option.getD_some]; omega
      have hmc : hm.2.getD capc ≤ capc := by
        cases h0 : hm.2 with
        | none => simp
        | some m => have := e4 m h0; simp only [Option.getD_some]; omega
      refine ⟨.slice (if hm.2.getD capc = l then some ⟨b, o, none⟩ else some ((⟨b, o, none⟩ : Addr).add (l * s))) (hm.1 - l) (hm.2.getD capc - l), ?_, ?_⟩
      · simp [Instr.sliceAt, Instr.slice, run_und hu, e1, run_sz hs]
      · have ecap : ∀ c, (match hm.2 with | some m => some (m - l) | none => capO cap l) = some c → hm.2.getD capc - l = c := by
          intro c hc
          cases h0 : hm.2 with
          | none =>
            rw [h0] at hc
            obtain ⟨k, hk, rfl⟩ := capO_some hc
            rw [hcap k hk]; rfl
          | some m => rw [h0] at hc; cases hc; rfl
        by_cases hml : hm.2.getD capc = l
        · rw [if_pos hml]
          simp only [RepV]
          refine ⟨b, o, _, rfl, by omega, ecap, e', he, hv, fun hx => ?_⟩
          obtain ⟨p1, p2, p3⟩ := hp hx
          refine ⟨p1, .inr (by omega), fun hn => ?_⟩
          cases h0 : hm.2 with
          | some m => rw [h0] at hn; cases hn
          | none =>
            rw [h0] at hn hml
            cases cap with
            | some c => cases hn
            | none =>
              have := p3 rfl
              simp only [Option.getD_none] at hml
              subst hml
              simp only [Option.getD_none, Nat.sub_self, Nat.zero_mul]
              omega
        · rw [if_neg hml, Addr.add_mid]
          simp only [RepV]
          refine ⟨b, o + l * s, _, rfl, by omega, ecap, e', he, hv, fun hx => ?_⟩
          obtain ⟨p1, p2, p3⟩ := hp hx
          refine ⟨p1, .inl ?_, fun hn => ?_⟩
          · rcases p2 with p2 | p2
            · omega
            · omega
          · cases h0 : hm.2 with
            | some m => rw [h0] at hn; cases hn
            | none =>
              rw [h0] at hn hml
              cases cap with
              | some c => cases hn
              | none =>
                have := p3 rfl
                simp only [Option.getD_none]
                have hlc : l ≤ capc := by rw [h0] at hh; simp only [Option.getD_none] at hh; omega
                have := Nat.mul_le_mul_right s hlc
                rw [Nat.sub_mul]
                omega
    · rw [nbeq_false hsz, cond_false] at h; cases h
  case fsl cs sz len cap =>
    by_cases hsz : s = sz
    · subst hsz
      rw [nbeq, decide_eq_true rfl, cond_true] at h
      obtain ⟨hm, h1, h⟩ := bind_some h
      obtain ⟨l, h2, h⟩ := bind_some h
      obtain ⟨cs', h3, h⟩ := bind_some h
      simp only [forceN_eq, forceO_eq] at h
      cases h
      simp only [RepV] at hx
      obtain ⟨b, o, c, capc, rfl, hlen, hcap, hcs, hc, hl⟩ := hx
      obtain ⟨e1, e2, e3, e4⟩ := sliceBounds_sound (P := P) (w := w) rh rm rl h1 h2 hlen true
      have hh : hm.1 ≤ hm.2.getD capc := by
        cases h0 : hm.2 with
        | none => have := e3 h0; simp only [Option.getD_none]; omega
        | some m => have := e4 m h0; simp only [Option.getD_some]; omega
      refine ⟨.slice (if hm.2.getD capc = l then some ⟨b, o, none⟩ else some ((⟨b, o, none⟩ : Addr).add (l * s))) (hm.1 - l) (hm.2.getD capc - l), ?_, ?_⟩
      · simp [Instr.sliceAt, Instr.slice, run_und hu, e1, run_sz hs]
      · have ecap : ∀ c, (match hm.2 with | some m => some (m - l) | none => capO cap l) = some c → hm.2.getD capc - l = c := by
          intro c hc
          cases h0 : hm.2 with
          | none =>
            rw [h0] at hc
            obtain ⟨k, hk, rfl⟩ := capO_some hc
            rw [hcap k hk]; rfl
          | some m => rw [h0] at hc; cases hc; rfl
        rw [dropN_eq] at h3
        obtain ⟨e5, e6⟩ := takeN_eq h3
        have hl' := RepL.take ((hm.1 - l) * s) (RepL.drop (l * s) hl)
        rw [← e5, List.drop_take, List.take_take, List.drop_drop] at hl'
        have hle : (hm.1 - l) * s ≤ cs.length - l * s := by
          have : cs'.length ≤ (cs.drop (l * s)).length := by rw [e5]; exact List.length_take_le' _ _
          rw [List.length_drop] at this; omega
        rw [Nat.min_eq_left hle] at hl'
        by_cases hml : hm.2.getD capc = l
        · rw [if_pos hml]
          have hz : hm.1 - l = 0 := by omega
          simp only [RepV]
          refine ⟨b, o, c, _, rfl, by omega, ecap, e6, hc, ?_⟩
          have : cs' = [] := List.eq_nil_of_length_eq_zero (by rw [e6, hz, Nat.zero_mul])
          subst this
          exact RepL.nil
        · rw [if_neg hml, Addr.add_mid]
          simp only [RepV]
          refine ⟨b, o + l * s, c, _, rfl, by omega, ecap, e6, hc, ?_⟩
          rw [e6]; exact hl'
    · rw [nbeq_false hsz, cond_false] at h; cases h

theorem bytes_extract (s : List UInt8) (l h : Nat) : (⟨s.toArray⟩ : ByteArray).extract l h = ⟨((s.take h).drop l).toArray⟩ := by
  have : ((⟨s.toArray⟩ : ByteArray).extract l h).data = (((s.take h).drop l).toArray) := by
    rw [ByteArray.data_extract]
    apply Array.ext'
    simp [List.drop_take]
  rw [← this]
theorem bytes_size (s : List UInt8) : (⟨s.toArray⟩ : ByteArray).size = s.length := by
  show s.toArray.size = _
  simp

theorem sliceA_sound {t : TypeId} {x y : AV} {v : Value} (hx : RepV E x v) {lo hi mx : Option AV} {vlo vhi vmx : Option Value}
    (rl : RepO E lo vlo) (rh : RepO E hi vhi) (rm : RepO E mx vmx) (h : sliceA P t x lo hi mx = some y) : Yl P E w (Instr.sliceAt t v vlo vhi vmx) y := by
  unfold sliceA sliceD at h
  split at h
  · rename_i hu
    cases x <;> simp only at h <;> try cases h
    rename_i s
    simp only [RepV] at hx; subst hx
    unfold sliceStr at h
    cases mx with
    | some m => cases h
    | none =>
      cases vmx with
      | some v => exact rm.elim
      | none =>
        simp only at h
        obtain ⟨h1, hb, h⟩ := bind_some h
        obtain ⟨l, hb2, h⟩ := bind_some h
        simp only [forceS_eq] at h
        cases h
        have hh : highA hi none s.length s.length = some (h1, none) := by simp [highA, hb]
        obtain ⟨e1, e2, _, _⟩ := sliceBounds_sound (P := P) (E := E) (w := w) (mx := none) (vmx := none) rh trivial rl hh hb2 (Nat.le_refl _) false
        refine ⟨.string ((⟨s.toArray⟩ : ByteArray).extract l h1), ?_, by simp only [RepV, bytes_extract]⟩
        simp [Instr.sliceAt, Instr.slice, run_und hu, bytes_size, e1]
  · rename_i n e hu
    cases x <;> simp only at h <;> try cases h
    rename_i id ver off
    simp only [RepV] at hx
    obtain ⟨b, o, rfl, e', he, hv, hp⟩ := hx
    obtain ⟨sz, hs, h⟩ := bind_some h
    obtain ⟨hm, h1, h⟩ := bind_some h
    obtain ⟨l, h2, h⟩ := bind_some h
    simp only [mkSl, forceN_eq, forceO_eq] at h
    cases h
    obtain ⟨e1, e2, e3, e4⟩ := sliceBounds_sound (P := P) (w := w) rh rm rl h1 h2 (Nat.le_refl n) false
    have hh : hm.1 ≤ hm.2.getD n := by
      cases h0 : hm.2 with
      | none => have := e3 h0; simp only [Option.getD_none]; omega
      | some m => have := e4 m h0; simp only [Option.getD_some]; omega
    refine ⟨.slice (some (if hm.2.getD n = l then ⟨b, o, none⟩ else (⟨b, o, none⟩ : Addr).add (l * sz))) (hm.1 - l) (hm.2.getD n - l), ?_, ?_⟩
    · simp [Instr.sliceAt, run_und hu, Instr.sureAddr, e1, run_sz hs]
    · have ecap : ∀ c, (match hm.2 with | some m => some (m - l) | none => some (n - l)) = some c → hm.2.getD n - l = c := by
        intro c hc
        cases h0 : hm.2 with
        | none => rw [h0] at hc; cases hc; rfl
        | some m => rw [h0] at hc; cases hc; rfl
      have nn : ∀ {α : Type}, (match hm.2 with | some m => some (m - l) | none => some (n - l)) = (none : Option Nat) → False := by
        intro _ hn
        cases h0 : hm.2 <;> rw [h0] at hn <;> cases hn
      by_cases hml : hm.2.getD n = l
      · rw [if_pos hml]
        simp only [RepV]
        refine ⟨b, o, _, rfl, by omega, ecap, e', he, hv, fun hx => ?_⟩
        obtain ⟨p1, p2⟩ := hp hx
        exact ⟨p1, .inr (by omega), fun hn => (nn (α := Nat) hn).elim⟩
      · rw [if_neg hml, Addr.add_mid]
        simp only [RepV]
        refine ⟨b, o + l * sz, _, rfl, by omega, ecap, e', he, hv, fun hx => ?_⟩
        obtain ⟨p1, p2⟩ := hp hx
        exact ⟨p1, .inl (by omega), fun hn => (nn (α := Nat) hn).elim⟩
  · rename_i e hu
    obtain ⟨s, hs, h⟩ := bind_some h
    exact sliceSl_sound hu hs hx rl rh rm h
  · cases h

/-! ### tuples, type assertions -/
theorem extractA_sound {x y : AV} {v : Value} (hx : RepV E x v) {i : Nat} (h : extractA x i = some y) : Yl P E w (Instr.extract v i) y := by
  cases x <;> simp only [extractA] at h <;> try cases h
  rename_i vs
  simp only [RepV] at hx
  obtain ⟨us, rfl, hl⟩ := hx
  obtain ⟨u, h1, h2⟩ := hl.get i y h
  refine ⟨u, ?_, h2⟩
  have : us[i]? = some u := by simpa using h1
  simp [Instr.extract, this]

theorem repV_tup2 {x y : AV} {u v : Value} (hx : RepV E x u) (hy : RepV E y v) : RepV E (.tup [x, y]) (.tuple #[u, v]) := by
  simp only [RepV]; exact ⟨_, rfl, RepL.cons hx (RepL.cons hy RepL.nil)⟩

theorem failV_some {t : TypeId} {ok : Bool} {y : AV} (h : failV P t ok = some y) : ok = true ∧ ∃ z, zeroA P t = some z ∧ y = .tup [z, .bool false] := by
  cases ok with
  | false => cases h
  | true =>
    unfold failV at h
    rw [cond_true] at h
    split at h
    · rename_i z hz; cases h; exact ⟨rfl, z, hz, rfl⟩
    · cases h

theorem typeAssertA_sound {x y : AV} {v : Value} (hx : RepV E x v) {xt t : TypeId} {ok : Bool} (h : typeAssertD P (P.underlying t) x t ok = some y) : Yl P E w (Instr.typeAssert v xt t ok) y := by
  unfold typeAssertD at h
  split at h
  · cases h
  · rename_i d hni hu
    split at h
    · rename_i u z
      simp only [RepV] at hx
      obtain ⟨v', rfl, hz⟩ := hx
      by_cases hut : u = t
      · subst hut
        rw [nbeq, decide_eq_true rfl, cond_true] at h
        cases h
        cases ok with
        | true =>
          refine ⟨.tuple #[v', .bool true], ?_, repV_tup2 hz (by simp only [RepV])⟩
          unfold Instr.typeAssert
          simp only [Sem.run_bind, run_und hu, Result.andThen_ok]
          cases d <;> first | exact absurd hu (hni _) | simp
        | false =>
          refine ⟨v', ?_, hz⟩
          unfold Instr.typeAssert
          simp only [Sem.run_bind, run_und hu, Result.andThen_ok]
          cases d <;> first | exact absurd hu (hni _) | simp
      · rw [nbeq_false hut, cond_false] at h
        obtain ⟨rfl, z', hz', rfl⟩ := failV_some h
        obtain ⟨zv, hr, rfl⟩ := run_zero (w := w) hz'
        refine ⟨.tuple #[zv, .bool false], ?_, repV_tup2 (repV_toAV E zv) (by simp only [RepV])⟩
        unfold Instr.typeAssert
        simp only [Sem.run_bind, run_und hu, Result.andThen_ok]
        cases d <;> first | exact absurd hu (hni _) | simp [hut, hr]
    · simp only [RepV] at hx; subst hx
      obtain ⟨rfl, z', hz', rfl⟩ := failV_some h
      obtain ⟨zv, hr, rfl⟩ := run_zero (w := w) hz'
      refine ⟨.tuple #[zv, .bool false], ?_, repV_tup2 (repV_toAV E zv) (by simp only [RepV])⟩
      unfold Instr.typeAssert
      simp only [Sem.run_bind, run_und hu, Result.andThen_ok]
      cases d <;> first | exact absurd hu (hni _) | simp [hr]
    · cases h
  · cases h

theorem ifaceA_sound {t : TypeId} {x y : AV} {v : Value} (hx : RepV E x v) (h : ifaceA P t x = some y) : Yl P E w (Instr.makeInterface t v) y := by
  unfold ifaceA isIface at h
  cases hu : P.underlying t with
  | none => simp [hu] at h
  | some d =>
    refine ⟨.iface t v, ?_, ?_⟩
    · unfold Instr.makeInterface
      simp only [Sem.run_bind, run_und hu, Result.andThen_ok]
      cases d <;> first | (simp [hu] at h; done) | simp
    · have : y = .iface t x := by
        cases d <;> simp [hu] at h <;> exact h.symm
      subst this
      simp only [RepV]; exact ⟨v, rfl, hx⟩

/-! ### conversions -/
theorem bytesOfA_some : ∀ {cs : List AV} {s : List UInt8}, bytesOfA cs = some s → ∃ ns : List Int, cs = ns.map (AV.int .u8) ∧ s = ns.map (fun n => UInt8.ofNat n.toNat)
  | [], s, h => by simp [bytesOfA] at h; subst h; exact ⟨[], rfl, rfl⟩
  | c :: r, s, h => by
    have h : byteOfA c (bytesOfA r) = some s := h
    have hc : ∃ n, c = .int .u8 n := by
      unfold byteOfA at h
      split at h
      · exact ⟨_, rfl⟩
      · cases h
    obtain ⟨n, rfl⟩ := hc
    cases hr : bytesOfA r with
    | none => rw [hr] at h; cases h
    | some l =>
      rw [hr] at h
      have h : forceN n.toNat (fun m => some (UInt8.ofNat m :: l)) = some s := h
      rw [forceN_eq] at h
      cases h
      obtain ⟨ns, rfl, rfl⟩ := bytesOfA_some hr
      exact ⟨n :: ns, rfl, rfl⟩

theorem repL_ints : ∀ {ns : List Int} {vs : List Value} {k : IntKind}, RepL E (ns.map (AV.int k)) vs → vs = ns.map (Value.int k)
  | [], vs, k, h => by simpa using h.nil_inv
  | n :: ns, vs, k, h => by
    obtain ⟨v, r, rfl, h1, h2⟩ := h.uncons
    simp only [RepV] at h1
    rw [h1, repL_ints h2]; rfl

theorem push_all : ∀ (ns : List Int) (s : ByteArray), ns.foldl (fun r n => r.push (UInt8.ofNat n.toNat)) s = ⟨s.data ++ (ns.map fun n => UInt8.ofNat n.toNat).toArray⟩
  | [], s => by simp
  | n :: ns, s => by
    rw [List.foldl_cons, push_all ns]
    simp [ByteArray.push]

theorem bytesToString_sound {b o len cap : Nat} {vs : List Value} {cs : List AV} {s : List UInt8} (hl : RepL E cs vs) (hr : w.rangeAt b o vs) (hn : vs.length = len) (h : bytesOfA cs = some s) :
    (Conv.bytesToString (.slice (some ⟨b, o, none⟩) len cap)).run P w = .ok (.string ⟨s.toArray⟩) w := by
  obtain ⟨ns, rfl, rfl⟩ := bytesOfA_some h
  have hv := repL_ints hl
  subst hv
  rw [run_bytesToString w _ len cap ns]
  · rw [push_all]; simp [ByteArray.empty, ByteArray.emptyWithCapacity] <;> rfl
  · have := run_loadCells_list (P := P) w ⟨b, o, none⟩ (ns.map (Value.int .u8)) (fun j v hj => by rw [Addr.add_mid]; exact hr j v hj)
    rw [hn] at this
    exact this

theorem strO_some {o : Option (List UInt8)} {y : AV} (h : strO o = some y) : ∃ s, o = some s ∧ y = .str s := by
  cases o with
  | none => cases h
  | some s => cases h; exact ⟨s, rfl, rfl⟩

theorem bytesStr_sound {h : AH} (hH : RepH P E h.get w) {x y : AV} {v : Value} (hx : RepV E x v) (hb : bytesStr h x = some y) : Yl P E w (Conv.bytesToString v) y := by
  cases x <;> simp only [bytesStr] at hb <;> try cases hb
  case nils =>
    simp only [RepV] at hx; subst hx
    refine ⟨.string .empty, by simp [Conv.bytesToString], ?_⟩
    simp only [RepV]; rfl
  case sl id ver off sz len cap =>
    by_cases hs : sz = 1
    · subst hs
      rw [show Nat.beq 1 1 = true from rfl, cond_true] at hb
      obtain ⟨s, h1, rfl⟩ := strO_some hb
      obtain ⟨l, h1, h2⟩ := bind_some h1
      simp only [RepV] at hx
      obtain ⟨b, o, capc, rfl, hlen, hcap, e, he, hv, hp⟩ := hx
      by_cases h0 : len = 0
      · subst h0
        have hl0 : l = [] := by
          have : l.length = 0 := by
            cases hg : h.get id with
            | none => rw [hg] at h1; cases h1
            | some r =>
              rw [hg] at h1
              simp only [rdRow] at h1
              cases hft : r.fits ver with
              | true => rw [hft, cond_true] at h1; exact (takeN_eq h1).2
              | false => rw [hft, cond_false] at h1; cases h1
          exact List.eq_nil_of_length_eq_zero this
        subst hl0
        exact ⟨_, bytesToString_sound (P := P) (E := E) (w := w) RepL.nil (fun j v hj => by simp at hj) rfl h2, by simp only [RepV]⟩
      · obtain ⟨vs, r1, r2, r3, r4⟩ := rdRow_sound (b := b) (o := o) hH h1 he (fun hx => by
          obtain ⟨p1, p2, p3⟩ := hp hx
          refine ⟨p1, ?_⟩
          rcases p2 with p2 | p2 <;> omega)
        exact ⟨_, bytesToString_sound r1 r2 r4 h2, by simp only [RepV]⟩
    · rw [nbeq_false hs, cond_false] at hb; cases hb
  case fsl cs sz len cap =>
    by_cases hs : sz = 1
    · subst hs
      rw [show Nat.beq 1 1 = true from rfl, cond_true] at hb
      obtain ⟨s, h1, rfl⟩ := strO_some hb
      obtain ⟨l, h1, h2⟩ := bind_some h1
      simp only [RepV] at hx
      obtain ⟨b, o, c, capc, rfl, hlen, hcap, hcs, hc, hl⟩ := hx
      obtain ⟨vs, r1, r2, r3, r4⟩ := fro_sound hH hc hl h1
      exact ⟨_, bytesToString_sound r1 r2 r4 h2, by simp only [RepV]⟩
    · rw [nbeq_false hs, cond_false] at hb; cases hb

theorem isU8_some {d : Option TypeDesc} (h : isU8 d = true) : d = some (.int .u8) := by
  unfold isU8 at h
  split at h
  · rfl
  · cases h

theorem convA_sound {h : AH} (hH : RepH P E h.get w) {s d : TypeId} {x y : AV} {v : Value} (hx : RepV E x v) (hc : convA P h s d x = some y) : Yl P E w (convert s d v) y := by
  unfold convA convD at hc
  split at hc
  · rename_i k hd
    split at hc
    · rename_i ds hs
      cases x <;> simp only at hc <;> try cases hc
      rename_i k' n
      simp only [RepV] at hx; subst hx
      rw [rInt_eq] at hc
      cases hc
      refine ⟨.int k (k.wrap n), ?_, by simp only [RepV]⟩
      unfold convert
      simp only [Sem.run_bind, run_und hs, run_und hd, Result.andThen_ok]
      cases ds <;> simp [Conv.intToInt]
    · cases hc
  · rename_i hd
    split at hc
    · rename_i hs
      cases x <;> simp only at hc <;> try cases hc
      rename_i b
      simp only [RepV] at hx; subst hx
      refine ⟨.string ⟨b.toArray⟩, ?_, by simp only [RepV]⟩
      unfold convert
      simp [Sem.run_bind, run_und hs, run_und hd]
    · rename_i e hs
      by_cases hu8 : isU8 (P.underlying e) = true
      · rw [hu8, cond_true] at hc
        have he := isU8_some hu8
        obtain ⟨u, h1, h2⟩ := bytesStr_sound (P := P) hH hx hc
        refine ⟨u, ?_, h2⟩
        unfold convert
        cases x <;> simp only [bytesStr] at hc <;> try cases hc
        all_goals
          simp only [RepV] at hx
          first
            | subst hx
            | obtain ⟨_, _, _, rfl, _⟩ := hx
            | obtain ⟨_, _, _, _, rfl, _⟩ := hx
          simp only [Sem.run_bind, run_und hs, run_und hd, run_und he, Result.andThen_ok]
          exact h1
      · rw [Bool.not_eq_true] at hu8
        rw [hu8, cond_false] at hc; cases hc
    · cases hc
  · cases hc

end Go.Proofs.YtckcgijepiejlaaGreat.Ae
