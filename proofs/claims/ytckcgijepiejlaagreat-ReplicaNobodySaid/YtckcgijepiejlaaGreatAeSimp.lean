/-
  THE EVALUATOR, STEP BY STEP: equations by which it is followed where values are not known ('simp -implicitDefEqProofs only').
-/
import Derived.Test.YtckcgijepiejlaaGreatAePure
namespace Go.Proofs.YtckcgijepiejlaaGreat.Ae
open Go
set_option linter.unusedVariables false
set_option linter.unusedSimpArgs false
set_option linter.unnecessarySimpa false
section
variable {P : Program} {call : CallF} {lf n : Nat} {s : St} {tm : Tm} {h : AH}

/-! ### code -/
theorem codeA_skip : codeA P call lf n .skip s = some (.normal, s) := rfl
theorem codeA_seq (a b : Code) : codeA P call lf n (.seq a b) s = seqK (codeA P call lf n a s) (codeA P call lf n b) := rfl
theorem codeA_region (id : Nat) (ops : Array Oper) : codeA P call lf n (.region id ops false) s = regK (seqA P call ops.toList ops.toList s) := rfl
theorem codeA_draw (id : Nat) (ops : Array Oper) : codeA P call lf n (.region id ops true) s = regK (regionA P call ops true s) := rfl
theorem codeA_cond (c : Operand) (x y : Code) : codeA P call lf n (.cond c x y) s = condK (evo s.tmps c) (codeA P call lf n x) (codeA P call lf n y) s := rfl
theorem codeA_block (id : Nat) (b : Code) : codeA P call lf n (.block id b) s = blockK id (codeA P call lf n b s) := rfl
theorem codeA_loop (b : Code) : codeA P call lf n (.loop b) s = iterA (codeA P call lf n b) lf s := rfl
theorem codeA_exit (id : Nat) : codeA P call lf n (.exit id) s = some (.exit id, s) := rfl
theorem codeA_ret : codeA P call lf n .ret s = some (.ret, s) := rfl

theorem seqK_normal (k : St → CO) : seqK (some (.normal, s)) k = k s := rfl
theorem seqK_ret (k : St → CO) : seqK (some (.ret, s)) k = some (.ret, s) := rfl
theorem seqK_exit (i : Nat) (k : St → CO) : seqK (some (.exit i, s)) k = some (.exit i, s) := rfl
theorem condK_true (x y : St → CO) : condK (.bool true) x y s = x s := rfl
theorem condK_false (x y : St → CO) : condK (.bool false) x y s = y s := rfl
theorem regK_go : regK (some (.go s)) = some (.normal, s) := rfl
theorem blockK_normal (id : Nat) : blockK id (some (.normal, s)) = some (.normal, s) := rfl
theorem blockK_ret (id : Nat) : blockK id (some (.ret, s)) = some (.ret, s) := rfl
theorem blockK_exit (id i : Nat) : blockK id (some (.exit i, s)) = if i = id then some (.normal, s) else some (.exit i, s) := by
  show (bif Nat.beq i id then _ else _) = _
  rw [nbeq]; by_cases h : i = id <;> simp [h]

/-! ### regions in the order of the text -/
theorem seqA_nil (ops : List Oper) : seqA P call ops [] s = some (.go s) := rfl
theorem seqA_cons (ops l : List Oper) (o : Oper) : seqA P call ops (o :: l) s = wantK (wantedA ops s.tmps o.guard) o s (opA P call o s) (seqA P call ops l) := rfl
theorem wanted_none (ops : List Oper) : wantedA ops tm none = some true := rfl
theorem wanted_some (ops : List Oper) (j : Nat) (b : Bool) : wantedA ops tm (some (j, b)) = wantedG ops tm j b := rfl
theorem wantK_true (o : Oper) (yes : Option SR) (k : St → Option SR) : wantK (some true) o s yes k = thenK yes k := rfl
theorem wantK_false (d : Tmp) (op : Op) (ty : TypeId) (pos : String) (af : Array Edge) (g : Option (Nat × Bool)) (yes : Option SR) (k : St → Option SR) :
    wantK (some false) ⟨some d, op, ty, pos, af, g⟩ s yes k = k ⟨Tr.set s.tmps d undefA, s.defs, s.h, s.rcv⟩ := by
  simp [wantK, putK]
theorem thenK_go (k : St → Option SR) : thenK (some (.go s)) k = k s := rfl
theorem putK_dst {α : Type} (d : Tmp) (v : AV) (k : Tm → Option α) : putK tm (some d) v k = k (Tr.set tm d v) := by simp [putK]
theorem putK_no {α : Type} (v : AV) (k : Tm → Option α) : putK tm none v k = k tm := rfl

/-! ### operations -/
variable (d : Option Tmp) (ty : TypeId) (pos : String) (af : Array Edge) (g : Option (Nat × Bool))
theorem opA_move (x : Operand) : opA P call ⟨d, .move x, ty, pos, af, g⟩ s = readK s d (some (evo s.tmps x)) := rfl
theorem opA_assign (x : Operand) : opA P call ⟨d, .assign x, ty, pos, af, g⟩ s = readK s d (some (evo s.tmps x)) := rfl
theorem opA_pick (c a b : Operand) : opA P call ⟨d, .pick c a b, ty, pos, af, g⟩ s = readK s d (pickA (evo s.tmps c) (evo s.tmps a) (evo s.tmps b)) := rfl
theorem opA_build (t : TypeId) (ps : Array (Nat × Operand)) : opA P call ⟨d, .build t ps, ty, pos, af, g⟩ s = readK s d (buildA P t (evoP s.tmps ps.toList)) := rfl
theorem opA_load (t : TypeId) (a : Operand) : opA P call ⟨d, .load t a, ty, pos, af, g⟩ s = readK s d (loadA P s.h t (evo s.tmps a)) := rfl
theorem opA_nilCheck (x : Operand) : opA P call ⟨d, .nilCheck x, ty, pos, af, g⟩ s = readK s d (nilCheckA (evo s.tmps x)) := rfl
theorem opA_binOp (op : BinOp) (t t2 : TypeId) (x y : Operand) : opA P call ⟨d, .binOp op t x y t2, ty, pos, af, g⟩ s = readK s d (binA P op t (isLit x || isLit y) (evo s.tmps x) (evo s.tmps y)) := rfl
theorem opA_unOp (op : UnOp) (t : TypeId) (x : Operand) : opA P call ⟨d, .unOp op t x, ty, pos, af, g⟩ s = readK s d (unA op (evo s.tmps x)) := rfl
theorem opA_conv (a b : TypeId) (x : Operand) (hk : isSlice (P.underlying b) = false) : opA P call ⟨d, .convert a b x, ty, pos, af, g⟩ s = readK s d (convA P s.h a b (evo s.tmps x)) := by
  rw [opA_is]; simp only [kindA, hk, cond_false]; rfl
theorem opA_convMake (a b : TypeId) (x : Operand) (hk : isSlice (P.underlying b) = true) : opA P call ⟨d, .convert a b x, ty, pos, af, g⟩ s = makeK s d (strRow P s.h.next (P.underlying a) (P.underlying b) (evo s.tmps x)) := by
  rw [opA_is]; simp only [kindA, hk, cond_true]; rfl
theorem opA_fieldAddr (t : TypeId) (x : Operand) (f : Nat) : opA P call ⟨d, .fieldAddr t x f, ty, pos, af, g⟩ s = readK s d (fieldAddrD P (P.underlying t) (evo s.tmps x) f) := rfl
theorem opA_field (t : TypeId) (x : Operand) (f : Nat) : opA P call ⟨d, .field t x f, ty, pos, af, g⟩ s = readK s d (fieldD P (P.underlying t) (evo s.tmps x) f) := rfl
theorem opA_indexAddr (t : TypeId) (x i : Operand) : opA P call ⟨d, .indexAddr t x i, ty, pos, af, g⟩ s = readK s d (indexAddrA P t (evo s.tmps x) (evo s.tmps i)) := rfl
theorem opA_index (t : TypeId) (x i : Operand) : opA P call ⟨d, .index t x i, ty, pos, af, g⟩ s = readK s d ((asI (evo s.tmps i)).bind fun i => indexD P (P.underlying t) (evo s.tmps x) i) := rfl
theorem opA_slice (t : TypeId) (x : Operand) (lo hi mx : Option Operand) : opA P call ⟨d, .slice t x lo hi mx, ty, pos, af, g⟩ s = readK s d (sliceA P t (evo s.tmps x) (evoO s.tmps lo) (evoO s.tmps hi) (evoO s.tmps mx)) := rfl
theorem opA_extract (x : Operand) (i : Nat) : opA P call ⟨d, .extract x i, ty, pos, af, g⟩ s = readK s d (extractA (evo s.tmps x) i) := rfl
theorem opA_makeFunc (f : Nat) (a b : Array Operand) : opA P call ⟨d, .makeFunc (.func f) a b, ty, pos, af, g⟩ s = readK s d (some (.fn (.func f) (evos s.tmps a.toList) (evos s.tmps b.toList))) := rfl
theorem opA_len (args : Array Operand) (ts : Array TypeId) : opA P call ⟨d, .call ⟨.builtin .len, args, ts⟩, ty, pos, af, g⟩ s = readK s d (builtinA P .len ts.toList (evos s.tmps args.toList)) := rfl
theorem opA_cap (args : Array Operand) (ts : Array TypeId) : opA P call ⟨d, .call ⟨.builtin .cap, args, ts⟩, ty, pos, af, g⟩ s = readK s d (builtinA P .cap ts.toList (evos s.tmps args.toList)) := rfl
theorem opA_max (args : Array Operand) (ts : Array TypeId) : opA P call ⟨d, .call ⟨.builtin .max, args, ts⟩, ty, pos, af, g⟩ s = readK s d (foldI max2A (evos s.tmps args.toList)) := rfl
theorem opA_min (args : Array Operand) (ts : Array TypeId) : opA P call ⟨d, .call ⟨.builtin .min, args, ts⟩, ty, pos, af, g⟩ s = readK s d (foldI min2A (evos s.tmps args.toList)) := rfl
theorem opA_alloc (t : TypeId) : opA P call ⟨d, .alloc t, ty, pos, af, g⟩ s = makeK s d (rowP s.h.next (zeroA P t)) := rfl
theorem opA_box (t : TypeId) (x : Operand) : opA P call ⟨d, .box t x, ty, pos, af, g⟩ s = makeK s d (some (.ptr s.h.next 0 0, (evo s.tmps x).cells)) := rfl
theorem opA_buildSlice (t : TypeId) (len : Nat) (ps : Array (Nat × Operand)) : opA P call ⟨d, .buildSlice t len ps, ty, pos, af, g⟩ s = makeK s d (rowS s.h.next len (buildSliceD P (P.underlying t) len (evoP s.tmps ps.toList))) := rfl
theorem opA_makeSlice (t : TypeId) (l c : Operand) : opA P call ⟨d, .makeSlice t l c, ty, pos, af, g⟩ s = makeK s d ((asI (evo s.tmps l)).bind fun l => (asI (evo s.tmps c)).bind fun c => rowM s.h.next (makeSliceD P (P.underlying t) l c)) := rfl
theorem opA_store (t : TypeId) (a x : Operand) : opA P call ⟨d, .store t a x, ty, pos, af, g⟩ s = actK s d (unitO (storeA P ⟨s.h.next + 1, s.h.tr⟩ t (evo s.tmps a) (evo s.tmps x))) := by
  rw [opA_is]
  show actK s d (forceN (s.h.next + 1) fun n => opActA P call ⟨n, s.h.tr⟩ s.tmps s.h.next _) = _
  rw [forceN_eq]; rfl
theorem opA_callF (args : Array Operand) (ts : Array TypeId) (f : Operand) : opA P call ⟨d, .call ⟨.value f, args, ts⟩, ty, pos, af, g⟩ s = actK s d (callV call ⟨s.h.next + 1, s.h.tr⟩ (evo s.tmps f) (evos s.tmps args.toList)) := by
  rw [opA_is]
  show actK s d (forceN (s.h.next + 1) fun n => opActA P call ⟨n, s.h.tr⟩ s.tmps s.h.next _) = _
  rw [forceN_eq]; rfl
theorem opA_append (args : Array Operand) (ts : Array TypeId) : opA P call ⟨d, .call ⟨.builtin .append, args, ts⟩, ty, pos, af, g⟩ s = actK s d (builtinW P ⟨s.h.next + 1, s.h.tr⟩ s.h.next .append ts.toList (evos s.tmps args.toList)) := by
  show actK s d (forceN (s.h.next + 1) fun n => opActA P call ⟨n, s.h.tr⟩ s.tmps s.h.next _) = _
  rw [forceN_eq]; rfl
theorem opA_copy (args : Array Operand) (ts : Array TypeId) : opA P call ⟨d, .call ⟨.builtin .copy, args, ts⟩, ty, pos, af, g⟩ s = actK s d (builtinW P ⟨s.h.next + 1, s.h.tr⟩ s.h.next .copy ts.toList (evos s.tmps args.toList)) := by
  show actK s d (forceN (s.h.next + 1) fun n => opActA P call ⟨n, s.h.tr⟩ s.tmps s.h.next _) = _
  rw [forceN_eq]; rfl

theorem readK_some (v : AV) : readK s d (some v) = putK s.tmps d v fun t => some (.go ⟨t, s.defs, s.h, s.rcv⟩) := rfl
theorem makeK_some (v : AV) (cs : List AV) (hc : allOne cs = true) : makeK s d (some (v, cs)) = putK s.tmps d v fun t => some (.go ⟨t, s.defs, ⟨s.h.next + 1, s.h.tr.set s.h.next ⟨0, cs, none⟩⟩, s.rcv⟩) := by
  unfold makeK; simp [hc]
theorem actK_next (v : AV) (h' : AH) : actK s d (some (.next v h')) = putK s.tmps d v fun t => some (.go ⟨t, s.defs, h', s.rcv⟩) := rfl
theorem callO_val (v : AV) (h' : AH) : callO (some (.val v h')) = some (.next v h') := rfl
theorem callV_fn (f : Nat) (args : List AV) : callV call h (.fn (.func f) [] []) args = callO (call (.func f) args h) := by
  simp [callV]
theorem unitO_is (h' : AH) : unitO (some h') = some (.next undefA h') := rfl
theorem nextO_is (v : AV) (h' : AH) : nextO (some (v, h')) = some (.next v h') := rfl

/-! ### operands -/
theorem evo_tmp (t : Nat) : evo tm (.tmp t) = tm.val t := rfl
theorem evo_const (v : Value) : evo tm (.const v) = toAV v := rfl
theorem evo_func (f : Nat) : evo tm (.func f) = .fn (.func f) [] [] := rfl
theorem evos_nil' : evos tm [] = [] := rfl
theorem evos_cons' (x : Operand) (l : List Operand) : evos tm (x :: l) = evo tm x :: evos tm l := rfl
theorem evoP_nil' : evoP tm [] = [] := rfl
theorem evoP_cons' (x : Nat × Operand) (l : List (Nat × Operand)) : evoP tm (x :: l) = (x.1, evo tm x.2) :: evoP tm l := rfl
theorem evoO_none : evoO tm none = none := rfl
theorem evoO_some (x : Operand) : evoO tm (some x) = some (evo tm x) := rfl
theorem toAV_int (k : IntKind) (n : Int) : toAV (.int k n) = .int k n := rfl
theorem toAV_bool (b : Bool) : toAV (.bool b) = .bool b := rfl
theorem toAV_nilp : toAV (.pointer none) = .nilp := rfl
theorem toAV_nils : toAV (.slice none 0 0) = .nils := rfl
theorem isLit_tmp (t : Nat) : isLit (.tmp t) = false := rfl
theorem isLit_const (v : Value) : isLit (.const v) = true := rfl
theorem isLit_func (f : Nat) : isLit (.func f) = false := rfl

/-! ### values -/
theorem pick_true (a b : AV) : pickA (.bool true) a b = some a := rfl
theorem pick_false (a b : AV) : pickA (.bool false) a b = some b := rfl
theorem boolIs_bool (w b : Bool) : boolIs w (.bool b) = some (b == w) := rfl
theorem boolIs_undef (w : Bool) : boolIs w undefA = some false := rfl
theorem nilCheck_ptr (a b c : Nat) : nilCheckA (.ptr a b c) = some (.ptr a b c) := rfl
theorem asI_int (k : IntKind) (n : Int) : asI (.int k n) = some n := rfl
theorem neg_int (k : IntKind) (n : Int) : unA .neg (.int k n) = some (.int k (k.wrap (0 - n))) := by simp [unA]
theorem not_bool (b : Bool) : unA .not (.bool b) = some (.bool !b) := by simp [unA]

variable (t : TypeId) (lit : Bool) (k : IntKind) (a b : Int)
theorem bin_add : binA P .add t lit (.int k a) (.int k b) = some (.int k (k.wrap (a + b))) := by cases k <;> simp [binA, intBinA, isShift, kcode, intBinK]
theorem bin_sub : binA P .sub t lit (.int k a) (.int k b) = some (.int k (k.wrap (a - b))) := by cases k <;> simp [binA, intBinA, isShift, kcode, intBinK]
theorem bin_mul : binA P .mul t lit (.int k a) (.int k b) = some (.int k (k.wrap (a * b))) := by cases k <;> simp [binA, intBinA, isShift, kcode, intBinK]
theorem beqd (a b : Int) : (a == b) = decide (a = b) := by rw [Bool.eq_iff_iff]; simp
theorem bin_eql : binA P .eql t lit (.int k a) (.int k b) = some (.bool (decide (a = b))) := by cases k <;> simp [binA, intBinA, isShift, kcode, intBinK, eqI_eq, beqd]
theorem bin_neq : binA P .neq t lit (.int k a) (.int k b) = some (.bool (!decide (a = b))) := by cases k <;> simp [binA, intBinA, isShift, kcode, intBinK, eqI_eq, beqd]
theorem bin_lss : binA P .lss t lit (.int k a) (.int k b) = some (.bool (decide (a < b))) := by cases k <;> simp [binA, intBinA, isShift, kcode, intBinK, ltI_eq]
theorem bin_leq : binA P .leq t lit (.int k a) (.int k b) = some (.bool (decide (a ≤ b))) := by
  have : (!decide (b < a)) = decide (a ≤ b) := by rw [Bool.eq_iff_iff]; simp [Int.not_lt]
  cases k <;> simp [binA, intBinA, isShift, kcode, intBinK, ltI_eq, this]
theorem bin_gtr : binA P .gtr t lit (.int k a) (.int k b) = some (.bool (decide (b < a))) := by cases k <;> simp [binA, intBinA, isShift, kcode, intBinK, ltI_eq]
theorem bin_geq : binA P .geq t lit (.int k a) (.int k b) = some (.bool (decide (b ≤ a))) := by
  have : (!decide (a < b)) = decide (b ≤ a) := by rw [Bool.eq_iff_iff]; simp [Int.not_lt]
  cases k <;> simp [binA, intBinA, isShift, kcode, intBinK, ltI_eq, this]
theorem ofNat_toNat {a : Int} (h : 0 ≤ a) : a = .ofNat a.toNat := (Int.toNat_of_nonneg h).symm
theorem bin_and (ha : 0 ≤ a) (hb : 0 ≤ b) : binA P .and t lit (.int k a) (.int k b) = some (.int k (k.wrap ((Nat.land a.toNat b.toNat : Nat) : Int))) := by
  conv => lhs; rw [ofNat_toNat ha, ofNat_toNat hb]
  cases k <;> simp [binA, intBinA, isShift, kcode, intBinK, bitsA]
theorem bin_or (ha : 0 ≤ a) (hb : 0 ≤ b) : binA P .or t lit (.int k a) (.int k b) = some (.int k (k.wrap ((Nat.lor a.toNat b.toNat : Nat) : Int))) := by
  conv => lhs; rw [ofNat_toNat ha, ofNat_toNat hb]
  cases k <;> simp [binA, intBinA, isShift, kcode, intBinK, bitsA]
theorem bin_xor (ha : 0 ≤ a) (hb : 0 ≤ b) : binA P .xor t lit (.int k a) (.int k b) = some (.int k (k.wrap ((Nat.xor a.toNat b.toNat : Nat) : Int))) := by
  conv => lhs; rw [ofNat_toNat ha, ofNat_toNat hb]
  cases k <;> simp [binA, intBinA, isShift, kcode, intBinK, bitsA]
theorem bin_andNot (ha : 0 ≤ a) (hb : 0 ≤ b) : binA P .andNot t lit (.int k a) (.int k b) = some (.int k (k.wrap ((Nat.xor a.toNat (Nat.land a.toNat b.toNat) : Nat) : Int))) := by
  conv => lhs; rw [ofNat_toNat ha, ofNat_toNat hb]
  cases k <;> simp [binA, intBinA, isShift, kcode, intBinK, bitsA]
theorem bin_shl (k' : IntKind) (ha : 0 ≤ a) (hb : 0 ≤ b) : binA P .shl t lit (.int k a) (.int k' b) = some (.int k (k.wrap ((Nat.shiftLeft a.toNat (min b.toNat k.bits) : Nat) : Int))) := by
  conv => lhs; rw [ofNat_toNat ha, ofNat_toNat hb]
  simp [binA, intBinA, isShift, shiftA, shlA]
theorem bin_shr (k' : IntKind) (ha : 0 ≤ a) (hb : 0 ≤ b) : binA P .shr t lit (.int k a) (.int k' b) = some (.int k ((Nat.shiftRight a.toNat (min b.toNat k.bits) : Nat) : Int)) := by
  conv => lhs; rw [ofNat_toNat ha, ofNat_toNat hb]
  simp [binA, intBinA, isShift, shiftA, shrA]

theorem wrap_u32 (m : Nat) : IntKind.u32.wrap (m : Int) = ((m % 4294967296 : Nat) : Int) := by
  show IntKind.u32.wrap (.ofNat m) = .ofNat (m % 4294967296)
  rw [← wrapP_eq]; rfl
theorem wrap_u64 (m : Nat) : IntKind.u64.wrap (m : Int) = ((m % 18446744073709551616 : Nat) : Int) := by
  show IntKind.u64.wrap (.ofNat m) = .ofNat (m % 18446744073709551616)
  rw [← wrapP_eq]; rfl
theorem wrap_u8 (m : Nat) : IntKind.u8.wrap (m : Int) = ((m % 256 : Nat) : Int) := by
  show IntKind.u8.wrap (.ofNat m) = .ofNat (m % 256)
  rw [← wrapP_eq]; rfl
theorem wrap_i64 {n : Int} (h1 : -9223372036854775808 ≤ n) (h2 : n < 9223372036854775808) : IntKind.i64.wrap n = n := by
  have e : IntKind.i64.wrap n = (let m := n % 18446744073709551616; if m ≥ 9223372036854775808 then m - 18446744073709551616 else m) := by
    unfold IntKind.wrap
    simp [IntKind.bits, IntKind.signed]
  rw [e]
  simp only []
  split <;> omega
theorem wrap_u64_neg {m : Nat} (h1 : 0 < m) (h2 : m < 18446744073709551616) : IntKind.u64.wrap (-(m : Int)) = ((18446744073709551616 - m : Nat) : Int) := by
  have e : IntKind.u64.wrap (-(m : Int)) = (-(m : Int)) % 18446744073709551616 := by
    unfold IntKind.wrap
    simp [IntKind.bits, IntKind.signed]
  rw [e]; omega
theorem isSlice_int (k : IntKind) : isSlice (some (.int k)) = false := rfl
theorem isSlice_string : isSlice (some .string) = false := rfl
theorem isSlice_slice (e : TypeId) : isSlice (some (.slice e)) = true := rfl
theorem convA_is (src dst : TypeId) (x : AV) : convA P h src dst x = convD P h (P.underlying src) (P.underlying dst) x := rfl
theorem convD_int (u : TypeDesc) (k' : IntKind) : convD P h (some u) (some (.int k')) (.int k a) = some (.int k' (k'.wrap a)) := by simp [convD]

/-! ### a call, from its body -/
theorem val_init (l : List AV) (t : Nat) : Tm.val (Tr.ofListFrom 0 l .leaf) t = (l[t]?).getD undefA := by
  unfold Tm.val
  rw [Tr.get_ofListFrom]
  by_cases ht : t < l.length
  · rw [if_pos ⟨Nat.zero_le _, by omega⟩, Nat.sub_zero, List.getElem?_eq_getElem ht]; rfl
  · rw [if_neg (by omega), List.getElem?_eq_none (by omega), Tr.get_leaf]; rfl

theorem enter_of {F : Nat → Option Func} {f : Nat} {fn : Func} {c : Code} {args : List AV} {s' : St} {l : List AV} {o : Out} (hF : F f = some fn) (hb : fn.body = some c) (hn : args.length ≤ fn.ntmps)
    (hc : codeA P call lf fn.ntmps c ⟨Tr.ofListFrom 0 args .leaf, [], h, .out⟩ = some (o, s')) (ho : o = .ret ∨ o = .normal) (hd : s'.defs = []) (hr : resultsA P s'.h s'.tmps fn.results.toList = some l) :
    enterA P F call lf f args h = some (.val (tupA l) s'.h) := by
  have hbody : bodyA P call lf fn.ntmps c args h .out = some (o, s') := by
    unfold bodyA
    rw [nble]
    simp only [hn, decide_true, cond_true, forceTr_eq]
    exact hc
  have hl : leftO P fn s'.tmps (leaveA P F call lf s'.defs none s'.h) = some (.val (tupA l) s'.h) := by
    rw [hd]
    show valO P fn s'.tmps s'.h = _
    unfold valO; rw [hr]
  unfold enterA
  simp only [hF, hb, hbody]
  rcases ho with rfl | rfl <;> exact hl

/-- a function of one result, that ends by itself -/
theorem enter_one {F : Nat → Option Func} {f : Nat} {fn : Func} {c : Code} {args : List AV} {v : AV} {h' : AH} {t : Nat} (hF : F f = some fn) (hb : fn.body = some c) (hn : args.length ≤ fn.ntmps) (hres : fn.results.toList = [.tmp t])
    (hc : ∃ s', codeA P call lf fn.ntmps c ⟨Tr.ofListFrom 0 args .leaf, [], h, .out⟩ = some (.ret, s') ∧ s'.defs = [] ∧ s'.tmps.val t = v ∧ s'.h = h') : enterA P F call lf f args h = some (.val v h') := by
  obtain ⟨s', h1, h2, h3, h4⟩ := hc
  subst h4
  have := enter_of (call := call) (l := [v]) hF hb hn h1 (.inl rfl) h2 (by rw [hres]; show some [s'.tmps.val t] = _; rw [h3])
  exact this

/-- what a call of a function comes to, from its body, beside sound calls -/
theorem sound_of_enter {F : Nat → Option Func} (hFn : FOk P F) (hmix : P.follows .mixedOrders = true) (hcall : CallSound P call) {f : Nat} {args : List AV} {r : CR} (hr : enterA P F call lf f args h = some r) : Sound P (.func f) args h r := by
  intro E w cargs f' hf hl hH hF
  have hf' : f' = .func f := hf
  subst hf'
  exact enterA_sound hFn hcall hmix hr hl hH hF

/-- a call that makes nothing, and calls nothing -/
theorem Sound.next {f : Fn} {args : List AV} {v : AV} (hs : Sound P f args h (.val v h)) : Sound P f args h (.val v h) := hs
end
end Go.Proofs.YtckcgijepiejlaaGreat.Ae
