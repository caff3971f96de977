/-
  WHAT A VALUE OF THE EVALUATOR STANDS FOR: a value of the machine, in a world; what its heap stands for: rows of the world's cells. And the plain lemmas on both.
-/
import Derived.Test.YtckcgijepiejlaaGreatAeCore
import Derived.Deep.MidRow
namespace Go.Proofs.YtckcgijepiejlaaGreat.Ae
open Go
set_option linter.unusedVariables false
set_option linter.unusedSimpArgs false
set_option linter.unnecessarySimpa false

/-! ### Tests -/
theorem nbeq (a b : Nat) : Nat.beq a b = decide (a = b) := by
  by_cases h : a = b
  · subst h; simp
  · have : Nat.beq a b ≠ true := fun e => h (Nat.eq_of_beq_eq_true e)
    simp [h, this]
theorem nbeq_true {a b : Nat} (h : Nat.beq a b = true) : a = b := Nat.eq_of_beq_eq_true h
theorem nbeq_false {a b : Nat} (h : a ≠ b) : Nat.beq a b = false := by rw [nbeq]; simpa using h
theorem nble (a b : Nat) : Nat.ble a b = decide (a ≤ b) := by
  by_cases h : a ≤ b
  · rw [Nat.ble_eq_true_of_le h]; simp [h]
  · have : Nat.ble a b ≠ true := fun e => h (Nat.le_of_ble_eq_true e)
    simp [h, this]
theorem nblt (a b : Nat) : Nat.blt a b = decide (a < b) := by
  show Nat.ble (a + 1) b = _
  rw [nble]; rfl

/-! ### Working out changes nothing -/
section force
variable {α : Type}
@[simp] theorem forceN_eq {α : Sort _} (n : Nat) (k : Nat → α) : forceN n k = k n := by cases n <;> rfl
@[simp] theorem forceI_eq {α : Sort _} (n : Int) (k : Int → α) : forceI n k = k n := by cases n <;> simp [forceI]
@[simp] theorem forceO_eq {α : Sort _} (n : Option Nat) (k : Option Nat → α) : forceO n k = k n := by cases n <;> simp [forceO]
@[simp] theorem forceB_eq {α : Sort _} (n : Bool) (k : Bool → α) : forceB n k = k n := by cases n <;> rfl
@[simp] theorem forceS_eq {α : Sort _} : ∀ (l : List UInt8) (k : List UInt8 → α), forceS l k = k l
  | [], _ => rfl
  | c :: l, k => by
    show forceN c.toNat (fun n => forceS l fun l => k (UInt8.ofNat n :: l)) = _
    rw [forceN_eq, forceS_eq l]; simp
@[simp] theorem forceTr_eq {α : Type} {β : Sort _} (t : Tr α) (k : Tr α → β) : forceTr t k = k t := by cases t <;> rfl
@[simp] theorem forceC_eq {α : Sort _} (v : AV) (k : AV → α) : forceC v k = k v := by cases v <;> simp [forceC]
@[simp] theorem forceCs_eq {α : Sort _} : ∀ (l : List AV) (k : List AV → α), forceCs l k = k l
  | [], _ => rfl
  | c :: l, k => by
    show forceC c (fun c => forceCs l fun l => k (c :: l)) = _
    rw [forceC_eq, forceCs_eq l]
end force

/-! ### The tree -/
@[simp] theorem forceQ_eq {β : Type} {γ : Sort _} (t : Q4 β) (k : Q4 β → γ) : forceQ t k = k t := by cases t; rfl
@[simp] theorem forceBt_eq {α : Type} {β : Sort _} (t : Bt α) (k : Bt α → β) : forceBt t k = k t := by cases t <;> rfl
theorem Q4.sel_put {β : Type} (t : Q4 β) (i j : D4) (y : β) : (t.put i y).sel j = if j = i then y else t.sel j := by
  cases t; cases i <;> cases j <;> rfl
theorem d4_inj : ∀ {a b : Nat}, a < 4 → b < 4 → (d4 a = d4 b ↔ a = b)
  | 0, 0, _, _ | 1, 1, _, _ | 2, 2, _, _ | 3, 3, _, _ => by simp
  | 0, 1, _, _ | 0, 2, _, _ | 0, 3, _, _ | 1, 0, _, _ | 1, 2, _, _ | 1, 3, _, _ | 2, 0, _, _ | 2, 1, _, _ | 2, 3, _, _ | 3, 0, _, _ | 3, 1, _, _ | 3, 2, _, _ => by simp [d4, Nat.blt, Nat.ble, Nat.beq]
  | a + 4, _, h, _ => by omega
  | _, b + 4, _, h => by omega

noncomputable def Pq.with {α : Type} (t : Pq α) (n : Nat) (o : Option α) : Pq α :=
  t.put (d4 (n / 64)) ((t.sel (d4 (n / 64))).put (d4 (n / 16 % 4)) (((t.sel (d4 (n / 64))).sel (d4 (n / 16 % 4))).put (d4 (n / 4 % 4)) ((((t.sel (d4 (n / 64))).sel (d4 (n / 16 % 4))).sel (d4 (n / 4 % 4))).put (d4 (n % 4)) o)))
theorem Pq.set_eq {α : Type} {γ : Sort _} (t : Pq α) (n : Nat) (o : Option α) (f : Pq α → γ) : Pq.set t n o f = f (Pq.with t n o) := by
  unfold Pq.set Pq.put3 Pq.with
  simp only [forceQ_eq]
theorem Pq.at_with {α : Type} (t : Pq α) (o : Option α) {n m : Nat} (hn : n < 256) (hm : m < 256) : Pq.at (Pq.with t n o) m = if m = n then o else Pq.at t m := by
  unfold Pq.at Pq.with
  rw [Q4.sel_put]
  by_cases h1 : m / 64 = n / 64
  · rw [if_pos (by rw [h1]), Q4.sel_put]
    by_cases h2 : m / 16 % 4 = n / 16 % 4
    · rw [if_pos (by rw [h2]), Q4.sel_put]
      by_cases h3 : m / 4 % 4 = n / 4 % 4
      · rw [if_pos (by rw [h3]), Q4.sel_put]
        by_cases h4 : m % 4 = n % 4
        · rw [if_pos (by rw [h4]), if_pos (by omega)]
        · rw [if_neg (fun h => h4 ((d4_inj (by omega) (by omega)).1 h)), if_neg (by omega), h1, h2, h3]
      · rw [if_neg (fun h => h3 ((d4_inj (by omega) (by omega)).1 h)), if_neg (by intro h; apply h3; rw [h]), h1, h2]
    · rw [if_neg (fun h => h2 ((d4_inj (by omega) (by omega)).1 h)), if_neg (by intro h; apply h2; rw [h]), h1]
  · rw [if_neg (fun h => h1 ((d4_inj (by omega) (by omega)).1 h)), if_neg (by intro h; apply h1; rw [h])]
theorem Pq.at_nil {α : Type} (n : Nat) : Pq.at (Pq.nil : Pq α) n = none := by
  unfold Pq.at
  have h1 : ∀ i, (Pq.nil : Pq α).sel i = z2 := fun i => by cases i <;> rfl
  have h2 : ∀ i, (z2 : Q4 (Q4 (Q4 (Option α)))).sel i = z1 := fun i => by cases i <;> rfl
  have h3 : ∀ i, (z1 : Q4 (Q4 (Option α))).sel i = z0 := fun i => by cases i <;> rfl
  have h4 : ∀ i, (z0 : Q4 (Option α)).sel i = none := fun i => by cases i <;> rfl
  rw [h1, h2, h3, h4]

theorem Bt.getF_succ {α : Type} (f : Nat) (t : Bt α) (n : Nat) :
    Bt.getF (f + 1) t n = if n = 0 then t.val else if n % 2 = 1 then Bt.getF f t.left (n / 2) else Bt.getF f t.right (n / 2 - 1) := by
  show (bif Nat.beq n 0 then t.val else bif Nat.beq (n % 2) 1 then forceN (n / 2) (Bt.getF f t.left) else forceN (n / 2 - 1) (Bt.getF f t.right)) = _
  by_cases h0 : n = 0
  · subst h0; rfl
  · have e0 : Nat.beq n 0 = false := nbeq_false h0
    rw [if_neg h0, e0]
    by_cases h1 : n % 2 = 1
    · rw [if_pos h1, h1]; simp
    · have e1 : Nat.beq (n % 2) 1 = false := nbeq_false h1
      rw [if_neg h1, e1]; simp
theorem Bt.getF_leaf {α : Type} : ∀ (f n : Nat), Bt.getF f (.leaf : Bt α) n = .nil
  | 0, _ => rfl
  | f + 1, n => by
    rw [Bt.getF_succ]
    have hl : (Bt.leaf : Bt α).left = .leaf := rfl
    have hr : (Bt.leaf : Bt α).right = .leaf := rfl
    rw [hl, hr, Bt.getF_leaf f, Bt.getF_leaf f]
    split
    · rfl
    · split <;> rfl
theorem Bt.get_setF {α : Type} (o : Pq α) : ∀ (f g : Nat) (t : Bt α) (n m : Nat), n < f → m < g → Bt.getF g (Bt.setF o f t n) m = if m = n then o else Bt.getF g t m
  | 0, _, _, _, _, h, _ => by omega
  | _, 0, _, _, _, _, h => by omega
  | f + 1, g + 1, t, n, m, h, hg => by
    have e : Bt.setF o (f + 1) t n =
        bif Nat.beq n 0 then Bt.node t.left o t.right
        else bif Nat.beq (n % 2) 1 then Bt.node (Bt.setF o f t.left (n / 2)) t.val t.right
        else Bt.node t.left t.val (Bt.setF o f t.right (n / 2 - 1)) := by
      show (bif Nat.beq n 0 then Bt.node t.left o t.right
        else bif Nat.beq (n % 2) 1 then forceN (n / 2) fun m => forceBt (Bt.setF o f t.left m) fun l => forceBt t.right fun r => forceQ t.val fun v => .node l v r
        else forceN (n / 2 - 1) fun m => forceBt (Bt.setF o f t.right m) fun r => forceBt t.left fun l => forceQ t.val fun v => .node l v r) = _
      simp
    have nl : ∀ (l r : Bt α) (v : Pq α), (Bt.node l v r).left = l := fun _ _ _ => rfl
    have nr : ∀ (l r : Bt α) (v : Pq α), (Bt.node l v r).right = r := fun _ _ _ => rfl
    have nv : ∀ (l r : Bt α) (v : Pq α), (Bt.node l v r).val = v := fun _ _ _ => rfl
    rw [e]
    by_cases h0 : n = 0
    · subst h0
      have : Nat.beq 0 0 = true := rfl
      rw [this, cond_true, Bt.getF_succ, Bt.getF_succ, nl, nr, nv]
      split <;> rfl
    · have e0 : Nat.beq n 0 = false := nbeq_false h0
      rw [e0, cond_false]
      by_cases h1 : n % 2 = 1
      · rw [h1]
        have : Nat.beq 1 1 = true := rfl
        rw [this, cond_true, Bt.getF_succ, Bt.getF_succ, nl, nr, nv]
        by_cases m0 : m = 0
        · rw [if_pos m0, if_pos m0, if_neg (by omega)]
        · rw [if_neg m0, if_neg m0]
          by_cases m1 : m % 2 = 1
          · rw [if_pos m1, if_pos m1, Bt.get_setF o f g _ _ _ (by omega) (by omega)]
            by_cases mn : m = n
            · rw [if_pos mn, if_pos (by omega)]
            · rw [if_neg mn, if_neg (by omega)]
          · rw [if_neg m1, if_neg m1, if_neg (by omega)]
      · have e1 : Nat.beq (n % 2) 1 = false := nbeq_false h1
        rw [e1, cond_false, Bt.getF_succ, Bt.getF_succ, nl, nr, nv]
        by_cases m0 : m = 0
        · rw [if_pos m0, if_pos m0, if_neg (by omega)]
        · rw [if_neg m0, if_neg m0]
          by_cases m1 : m % 2 = 1
          · rw [if_pos m1, if_pos m1, if_neg (by omega)]
          · rw [if_neg m1, if_neg m1, Bt.get_setF o f g _ _ _ (by omega) (by omega)]
            by_cases mn : m = n
            · rw [if_pos mn, if_pos (by omega)]
            · rw [if_neg mn, if_neg (by omega)]
theorem Bt.getF_mono {α : Type} : ∀ (f g : Nat) (t : Bt α) (n : Nat), n < f → n < g → Bt.getF f t n = Bt.getF g t n
  | 0, _, _, _, h, _ => by omega
  | _, 0, _, _, _, h => by omega
  | f + 1, g + 1, t, n, h, k => by
    rw [Bt.getF_succ, Bt.getF_succ]
    by_cases h0 : n = 0
    · rw [if_pos h0, if_pos h0]
    · rw [if_neg h0, if_neg h0]
      by_cases h1 : n % 2 = 1
      · rw [if_pos h1, if_pos h1, Bt.getF_mono f g _ _ (by omega) (by omega)]
      · rw [if_neg h1, if_neg h1, Bt.getF_mono f g _ _ (by omega) (by omega)]
theorem Bt.get_set {α : Type} (t : Bt α) (n m : Nat) (o : Pq α) : (t.set n o).get m = if m = n then o else t.get m :=
  Bt.get_setF o (n + 1) (m + 1) t n m (by omega) (by omega)

theorem Tr.get_is {α : Type} (t : Tr α) (n : Nat) : t.get n = if n < 256 then t.one.at n else (t.two.get (n / 256 - 1)).at (n % 256) := by
  show (bif Nat.blt n 256 then _ else _) = _
  rw [nblt]; by_cases h : n < 256 <;> simp [h]
@[simp] theorem Tr.get_leaf {α : Type} (n : Nat) : (Tr.leaf : Tr α).get n = none := by
  rw [Tr.get_is]
  have h1 : (Tr.leaf : Tr α).one = .nil := rfl
  have h2 : (Tr.leaf : Tr α).two = .leaf := rfl
  have h3 : ∀ k, (Bt.leaf : Bt α).get k = .nil := fun k => Bt.getF_leaf _ _
  rw [h1, h2, h3, Pq.at_nil, Pq.at_nil]
  split <;> rfl
theorem Tr.get_set {α : Type} (t : Tr α) (n m : Nat) (o : α) : (t.set n o).get m = if m = n then some o else t.get m := by
  have e : t.set n o = if n < 256 then .mk (Pq.with t.one n (some o)) t.two else .mk t.one (t.two.set (n / 256 - 1) (Pq.with (t.two.get (n / 256 - 1)) (n % 256) (some o))) := by
    show (bif Nat.blt n 256 then _ else _) = _
    rw [nblt]
    by_cases h : n < 256
    · simp [h, Pq.set_eq]
    · simp [h, Pq.set_eq]
  rw [e, Tr.get_is, Tr.get_is t]
  by_cases hn : n < 256
  · rw [if_pos hn]
    show (if m < 256 then Pq.at (Pq.with t.one n (some o)) m else (t.two.get (m / 256 - 1)).at (m % 256)) = _
    by_cases hm : m < 256
    · rw [if_pos hm, if_pos hm, Pq.at_with _ _ hn hm]
    · rw [if_neg hm, if_neg hm, if_neg (by omega)]
  · rw [if_neg hn]
    show (if m < 256 then t.one.at m else ((t.two.set (n / 256 - 1) (Pq.with (t.two.get (n / 256 - 1)) (n % 256) (some o))).get (m / 256 - 1)).at (m % 256)) = _
    by_cases hm : m < 256
    · rw [if_pos hm, if_pos hm, if_neg (by omega)]
    · rw [if_neg hm, if_neg hm, Bt.get_set]
      by_cases hq : m / 256 - 1 = n / 256 - 1
      · rw [if_pos hq, Pq.at_with _ _ (by omega) (by omega), hq]
        by_cases hr : m % 256 = n % 256
        · rw [if_pos hr, if_pos (by omega)]
        · rw [if_neg hr, if_neg (by omega)]
      · rw [if_neg hq, if_neg (by omega)]

theorem AH.get_put (h : AH) (id m : Nat) (r : Row) : (h.put id r).get m = if m = id then some r else h.get m := by
  unfold AH.put AH.get
  simp [Tr.get_set]
@[simp] theorem AH.next_put (h : AH) (id : Nat) (r : Row) : (h.put id r).next = h.next := by unfold AH.put; simp

theorem Tr.get_ofListFrom {α : Type} : ∀ (l : List α) (n : Nat) (t : Tr α) (m : Nat),
    (Tr.ofListFrom n l t).get m = if n ≤ m ∧ m < n + l.length then l[m - n]? else t.get m
  | [], n, t, m => by
    rw [if_neg (by simp only [List.length_nil]; omega)]; rfl
  | x :: l, n, t, m => by
    have e : Tr.ofListFrom n (x :: l) t = Tr.ofListFrom (n + 1) l (t.set n x) := by simp [Tr.ofListFrom]
    rw [e, Tr.get_ofListFrom l, Tr.get_set]
    by_cases h1 : n + 1 ≤ m ∧ m < n + 1 + l.length
    · rw [if_pos h1, if_pos (by simp; omega)]
      obtain ⟨k, rfl⟩ : ∃ k, m = n + 1 + k := ⟨m - (n + 1), by omega⟩
      rw [show n + 1 + k - n = k + 1 by omega, show n + 1 + k - (n + 1) = k by omega]; simp
    · rw [if_neg h1]
      by_cases h2 : m = n
      · subst h2; rw [if_pos rfl, if_pos (by simp)]; simp
      · rw [if_neg h2, if_neg (by simp; omega)]

/-! ### What a value stands for -/
structure Ent where
  ver : Nat
  blk : Nat
  base : Nat
  bsz : Nat

structure Env where
  ids : Nat → Option Ent
  fro : Nat → Option (Array Value)

/-- a function; 'yield' of a loop's record: the record's block is the number's -/
def FnOk (E : Env) (f f' : Fn) : Prop :=
  match f with
  | .yield i => ∃ b, f' = .yield b ∧ ∃ e, E.ids i = some e ∧ (e.ver = 0 → b = e.blk)
  | f => f' = f

mutual
def RepV (E : Env) : AV → Value → Prop
  | .bool b, v => v = .bool b
  | .int k n, v => v = .int k n
  | .str s, v => v = .string ⟨s.toArray⟩
  | .nilp, v => v = .pointer none
  | .ptr id ver off, v => ∃ b o, v = .pointer (some ⟨b, o, none⟩) ∧ ∃ e, E.ids id = some e ∧ ver ≤ e.ver ∧ (e.ver = ver → b = e.blk ∧ o = e.base + off)
  | .fptr cs, v => ∃ b o c, v = .pointer (some ⟨b, o, none⟩) ∧ E.fro b = some c ∧ RepL E cs ((c.toList.drop o).take cs.length)
  | .gptr g, v => v = .pointer (some ⟨g, 0, none⟩)
  | .nils, v => v = .slice none 0 0
  | .sl id ver off sz len cap, v => ∃ b o capc, v = .slice (some ⟨b, o, none⟩) len capc ∧ len ≤ capc ∧ (∀ c, cap = some c → capc = c) ∧
      ∃ e, E.ids id = some e ∧ ver ≤ e.ver ∧ (e.ver = ver → b = e.blk ∧ (o = e.base + off ∨ capc = 0) ∧ (cap = none → e.base + off + capc * sz = e.bsz))
  | .fsl cs sz len cap, v => ∃ b o c capc, v = .slice (some ⟨b, o, none⟩) len capc ∧ len ≤ capc ∧ (∀ c, cap = some c → capc = c) ∧ cs.length = len * sz ∧
      E.fro b = some c ∧ RepL E cs ((c.toList.drop o).take cs.length)
  | .fn f x y, v => ∃ f' p q, v = .func f' p q ∧ FnOk E f f' ∧ RepL E x p.toList ∧ RepL E y q.toList
  | .nilFn, v => v = .nilFunc
  | .iface t x, v => ∃ y, v = .iface t y ∧ RepV E x y
  | .nilIf, v => v = .nilIface
  | .agg cs, v => ∃ x, v = .agg x ∧ RepL E cs x.toList
  | .tup cs, v => ∃ x, v = .tuple x ∧ RepL E cs x.toList
  | .nilMap, v => v = .map none
  | .raw x, v => v = x
def RepL (E : Env) : List AV → List Value → Prop
  | [], vs => vs = []
  | c :: cs, vs => ∃ v r, vs = v :: r ∧ RepV E c v ∧ RepL E cs r
end

/-- what an environment knows stays known; a row's number may have come to a later version -/
structure Env.le (E E' : Env) : Prop where
  ids : ∀ id e, E.ids id = some e → ∃ e', E'.ids id = some e' ∧ (e' = e ∨ e.ver < e'.ver)
  fro : ∀ b c, E.fro b = some c → E'.fro b = some c

theorem Env.le.refl {E : Env} : E.le E := ⟨fun _ e h => ⟨e, h, .inl rfl⟩, fun _ _ h => h⟩
theorem Env.le.trans {A B C : Env} (h : A.le B) (k : B.le C) : A.le C :=
  ⟨fun id e he => by
    obtain ⟨e1, h1, r1⟩ := h.ids id e he
    obtain ⟨e2, h2, r2⟩ := k.ids id e1 h1
    refine ⟨e2, h2, ?_⟩
    rcases r1 with rfl | r1 <;> rcases r2 with rfl | r2
    · exact .inl rfl
    · exact .inr r2
    · exact .inr r1
    · exact .inr (by omega), fun b c hb => k.fro b c (h.fro b c hb)⟩

theorem FnOk.mono {E E' : Env} (hE : E.le E') {f f' : Fn} (h : FnOk E f f') : FnOk E' f f' := by
  cases f with
  | yield i =>
    obtain ⟨b, rfl, e, he, hb⟩ := h
    obtain ⟨e', he', hr⟩ := hE.ids i e he
    refine ⟨b, rfl, e', he', fun h0 => ?_⟩
    rcases hr with rfl | hr
    · exact hb h0
    · omega
  | _ => exact h

mutual
theorem RepV.mono {E E' : Env} (hE : E.le E') : ∀ (x : AV) (v : Value), RepV E x v → RepV E' x v
  | .bool _, _, h | .int _ _, _, h | .str _, _, h | .nilp, _, h | .gptr _, _, h | .nils, _, h | .nilFn, _, h | .nilIf, _, h | .nilMap, _, h | .raw _, _, h => by
    simpa only [RepV] using h
  | .ptr id ver off, v, h => by
    simp only [RepV] at h ⊢
    obtain ⟨b, o, rfl, e, he, hv, hp⟩ := h
    obtain ⟨e', he', r⟩ := hE.ids id e he
    refine ⟨b, o, rfl, e', he', ?_, ?_⟩
    · rcases r with rfl | r <;> omega
    · rcases r with rfl | r
      · exact hp
      · intro hx; omega
  | .fptr cs, v, h => by
    simp only [RepV] at h ⊢
    obtain ⟨b, o, c, rfl, hc, hl⟩ := h
    exact ⟨b, o, c, rfl, hE.fro b c hc, RepL.mono hE _ _ hl⟩
  | .sl id ver off sz len cap, v, h => by
    simp only [RepV] at h ⊢
    obtain ⟨b, o, capc, rfl, hlen, hcap, e, he, hv, hp⟩ := h
    obtain ⟨e', he', r⟩ := hE.ids id e he
    refine ⟨b, o, capc, rfl, hlen, hcap, e', he', ?_, ?_⟩
    · rcases r with rfl | r <;> omega
    · rcases r with rfl | r
      · exact hp
      · intro hx; omega
  | .fsl cs sz len cap, v, h => by
    simp only [RepV] at h ⊢
    obtain ⟨b, o, c, capc, rfl, h1, h2, h3, hc, hl⟩ := h
    exact ⟨b, o, c, capc, rfl, h1, h2, h3, hE.fro b c hc, RepL.mono hE _ _ hl⟩
  | .fn f x y, v, h => by
    simp only [RepV] at h ⊢
    obtain ⟨f', p, q, rfl, h0, h1, h2⟩ := h
    exact ⟨f', p, q, rfl, h0.mono hE, RepL.mono hE _ _ h1, RepL.mono hE _ _ h2⟩
  | .iface t x, v, h => by
    simp only [RepV] at h ⊢
    obtain ⟨y, rfl, h1⟩ := h
    exact ⟨y, rfl, RepV.mono hE _ _ h1⟩
  | .agg cs, v, h => by
    simp only [RepV] at h ⊢
    obtain ⟨x, rfl, h1⟩ := h
    exact ⟨x, rfl, RepL.mono hE _ _ h1⟩
  | .tup cs, v, h => by
    simp only [RepV] at h ⊢
    obtain ⟨x, rfl, h1⟩ := h
    exact ⟨x, rfl, RepL.mono hE _ _ h1⟩
theorem RepL.mono {E E' : Env} (hE : E.le E') : ∀ (x : List AV) (v : List Value), RepL E x v → RepL E' x v
  | [], _, h => by simpa only [RepL] using h
  | c :: cs, v, h => by
    simp only [RepL] at h ⊢
    obtain ⟨u, r, rfl, h1, h2⟩ := h
    exact ⟨u, r, rfl, RepV.mono hE _ _ h1, RepL.mono hE _ _ h2⟩
end

section lists
variable {E : Env}
theorem RepL.length : ∀ {cs : List AV} {vs : List Value}, RepL E cs vs → cs.length = vs.length
  | [], _, h => by simp only [RepL] at h; subst h; rfl
  | c :: cs, _, h => by
    simp only [RepL] at h
    obtain ⟨v, r, rfl, _, h2⟩ := h
    simp [RepL.length h2]
theorem RepL.nil : RepL E [] [] := by simp only [RepL]
theorem RepL.cons {c : AV} {cs : List AV} {v : Value} {vs : List Value} (h : RepV E c v) (t : RepL E cs vs) : RepL E (c :: cs) (v :: vs) := by
  simp only [RepL]; exact ⟨v, vs, rfl, h, t⟩
theorem RepL.cons_inv {c : AV} {cs : List AV} {v : Value} {vs : List Value} (h : RepL E (c :: cs) (v :: vs)) : RepV E c v ∧ RepL E cs vs := by
  simp only [RepL] at h
  obtain ⟨u, r, e, h1, h2⟩ := h
  cases e; exact ⟨h1, h2⟩
theorem RepL.uncons {c : AV} {cs : List AV} {vs : List Value} (h : RepL E (c :: cs) vs) : ∃ v r, vs = v :: r ∧ RepV E c v ∧ RepL E cs r := by
  simpa only [RepL] using h
theorem RepL.nil_inv {vs : List Value} (h : RepL E [] vs) : vs = [] := by simpa only [RepL] using h
theorem RepL.get : ∀ {cs : List AV} {vs : List Value}, RepL E cs vs → ∀ (i : Nat) (c : AV), cs[i]? = some c → ∃ v, vs[i]? = some v ∧ RepV E c v
  | [], _, _, i, c, hi => by simp at hi
  | x :: cs, _, h, i, c, hi => by
    simp only [RepL] at h
    obtain ⟨v, r, rfl, h1, h2⟩ := h
    cases i with
    | zero => simp at hi; subst hi; exact ⟨v, by simp, h1⟩
    | succ i => simp at hi; obtain ⟨w, hw, hr⟩ := RepL.get h2 i c hi; exact ⟨w, by simpa using hw, hr⟩
theorem RepL.drop : ∀ (n : Nat) {cs : List AV} {vs : List Value}, RepL E cs vs → RepL E (cs.drop n) (vs.drop n)
  | 0, _, _, h => by simpa using h
  | n + 1, [], _, h => by simp only [RepL] at h; subst h; simpa using RepL.nil
  | n + 1, c :: cs, _, h => by
    obtain ⟨v, r, rfl, _, h2⟩ := h.uncons
    simpa using RepL.drop n h2
theorem RepL.take : ∀ (n : Nat) {cs : List AV} {vs : List Value}, RepL E cs vs → RepL E (cs.take n) (vs.take n)
  | 0, _, _, _ => by simpa using RepL.nil
  | n + 1, [], _, h => by simp only [RepL] at h; subst h; simpa using RepL.nil
  | n + 1, c :: cs, _, h => by
    obtain ⟨v, r, rfl, h1, h2⟩ := h.uncons
    simpa using RepL.cons h1 (RepL.take n h2)
theorem RepL.append : ∀ {cs ds : List AV} {vs ws : List Value}, RepL E cs vs → RepL E ds ws → RepL E (cs ++ ds) (vs ++ ws)
  | [], _, _, _, h, k => by simp only [RepL] at h; subst h; simpa using k
  | c :: cs, _, _, _, h, k => by
    obtain ⟨v, r, rfl, h1, h2⟩ := h.uncons
    simpa using RepL.cons h1 (RepL.append h2 k)
/-- read place by place -/
theorem RepL.of_get : ∀ {cs : List AV} {vs : List Value}, cs.length = vs.length → (∀ (i : Nat) (c : AV) (v : Value), cs[i]? = some c → vs[i]? = some v → RepV E c v) → RepL E cs vs
  | [], [], _, _ => RepL.nil
  | [], _ :: _, h, _ => by simp at h
  | _ :: _, [], h, _ => by simp at h
  | c :: cs, v :: vs, h, k => RepL.cons (k 0 c v (by simp) (by simp)) (RepL.of_get (by simpa using h) fun i c' v' h1 h2 => k (i + 1) c' v' (by simpa using h1) (by simpa using h2))
theorem RepL.split {cs ds : List AV} {vs : List Value} (h : RepL E (cs ++ ds) vs) : RepL E cs (vs.take cs.length) ∧ RepL E ds (vs.drop cs.length) := by
  have h1 := RepL.take cs.length h
  have h2 := RepL.drop cs.length h
  simp at h1 h2
  exact ⟨h1, h2⟩
end lists

/-! ### Constants -/
mutual
theorem repV_toAV (E : Env) : ∀ v : Value, RepV E (toAV v) v
  | .bool b => by simp only [toAV, RepV]
  | .int k n => by simp only [toAV, RepV]
  | .string s => by simp only [toAV, RepV]
  | .pointer none => by simp only [toAV, RepV]
  | .pointer (some _) => by simp only [toAV, RepV]
  | .slice none 0 0 => by simp only [toAV, RepV]
  | .slice none 0 (_ + 1) => by simp only [toAV, RepV]
  | .slice none (_ + 1) _ => by simp only [toAV, RepV]
  | .slice (some _) _ _ => by simp only [toAV, RepV]
  | .nilFunc => by simp only [toAV, RepV]
  | .nilIface => by simp only [toAV, RepV]
  | .iface t v => by simp only [toAV, RepV]; exact ⟨v, rfl, repV_toAV E v⟩
  | .map none => by simp only [toAV, RepV]
  | .map (some _) => by simp only [toAV, RepV]
  | .agg cs => by simp only [toAV, RepV]; exact ⟨cs, rfl, repV_toAVa E cs⟩
  | .tuple cs => by simp only [toAV, RepV]; exact ⟨cs, rfl, repV_toAVa E cs⟩
  | .float _ _ => by simp only [toAV, RepV]
  | .complex _ _ _ => by simp only [toAV, RepV]
  | .chan _ => by simp only [toAV, RepV]
  | .func _ _ _ => by simp only [toAV, RepV]
theorem repV_toAVa (E : Env) : ∀ cs : Array Value, RepL E (toAVa cs) cs.toList
  | ⟨l⟩ => by simp only [toAVa]; exact repV_toAVs E l
theorem repV_toAVs (E : Env) : ∀ l : List Value, RepL E (toAVs l) l
  | [] => by simp only [toAVs]; exact RepL.nil
  | v :: l => by simp only [toAVs]; exact RepL.cons (repV_toAV E v) (repV_toAVs E l)
end

/-! ### A value's cells -/
theorem RepV.cells {E : Env} {x : AV} {v : Value} (h : RepV E x v) (hx : ∀ w, x = .raw w → w.oneCell' = true) : RepL E x.cells v.cells.toList := by
  cases x with
  | agg cs =>
    simp only [RepV] at h
    obtain ⟨y, rfl, hl⟩ := h
    exact hl
  | raw w =>
    have h1 := hx w rfl
    have h' := h
    simp only [RepV] at h
    subst h
    cases v <;> first | (cases h1; done) | exact RepL.cons h' RepL.nil
  | _ =>
    have h' := h
    simp only [RepV] at h
    first
      | (subst h; exact RepL.cons h' RepL.nil)
      | (obtain ⟨_, _, rfl, _⟩ := h; exact RepL.cons h' RepL.nil)
      | (obtain ⟨_, _, _, rfl, _⟩ := h; exact RepL.cons h' RepL.nil)
      | (obtain ⟨_, _, _, _, rfl, _⟩ := h; exact RepL.cons h' RepL.nil)
      | (obtain ⟨_, rfl, _⟩ := h; exact RepL.cons h' RepL.nil)

/-- a cell's value takes one cell -/
theorem RepV.one {E : Env} {x : AV} {v : Value} (h : RepV E x v) (hx : x.one = true) : v.oneCell' = true := by
  by_cases hr : ∃ w, x = .raw w
  · obtain ⟨w, rfl⟩ := hr
    simp only [RepV] at h
    subst h
    exact hx
  cases x <;> simp [AV.one] at hx <;> simp only [RepV] at h <;>
    first
      | exact absurd ⟨_, rfl⟩ hr
      | (subst h; rfl)
      | (obtain ⟨_, _, rfl, _⟩ := h; rfl)
      | (obtain ⟨_, _, _, rfl, _⟩ := h; rfl)
      | (obtain ⟨_, _, _, _, rfl, _⟩ := h; rfl)
      | (obtain ⟨_, rfl, _⟩ := h; rfl)

@[simp] theorem appL_eq : ∀ (z l : List AV), appL z l = z ++ l
  | [], _ => rfl
  | c :: z, l => by
    show c :: appL z l = _
    rw [appL_eq z l]; rfl
theorem repCells_zero (z : List AV) : repCells z 0 = [] := rfl
theorem repCells_succ (z : List AV) (n : Nat) : repCells z (n + 1) = z ++ repCells z n := appL_eq z _
theorem consO_eq (c : AV) (r : Option (List AV)) : consO c r = match r with | some r => some (c :: r) | none => none := by cases r <;> rfl
theorem allOne_nil : allOne [] = true := rfl
theorem allOne_cons (v : AV) (l : List AV) : allOne (v :: l) = (v.one && allOne l) := by
  show (bif v.one then allOne l else false) = _
  cases v.one <;> rfl
theorem RepL.ones {E : Env} : ∀ {cs : List AV} {vs : List Value}, RepL E cs vs → allOne cs = true → ∀ v ∈ vs, v.oneCell' = true
  | [], _, h, _ => by have := h.nil_inv; subst this; simp
  | c :: cs, _, h, ho => by
    obtain ⟨v, r, rfl, h1, h2⟩ := h.uncons
    simp [allOne_cons] at ho
    intro u hu
    rcases List.mem_cons.1 hu with rfl | hu
    · exact h1.one ho.1
    · exact h2.ones ho.2 u hu

/-- The slots. -/
def RepT (E : Env) (tm : Tm) (a : Array Value) : Prop := ∀ t, RepV E (tm.val t) (a.getD t undef)

theorem RepT.mono {E E' : Env} (hE : E.le E') {tm : Tm} {a : Array Value} (h : RepT E tm a) : RepT E' tm a := fun t => (h t).mono hE

/-! ### What code is good for -/
/-- what is asked of a region that draws its order, by the machine's own check -/
def DrawGood (P : Program) (ops : Array Oper) : Prop := Region.ok P.types ops true = true
def opsDst (n : Nat) (ops : Array Oper) : Prop := ∀ (i : Nat) (o : Oper), ops[i]? = some o → ∀ d, o.dst = some d → d < n

/-- its slots are there, its regions in order -/
def CodeGood (P : Program) (n : Nat) : Code → Prop
  | .region _ ops d => opsDst n ops ∧ (d = true → DrawGood P ops)
  | .seq a b | .cond _ a b => CodeGood P n a ∧ CodeGood P n b
  | .block _ a | .loop a => CodeGood P n a
  | .rangeFunc _ ps a b => (∀ t ∈ ps, t < n) ∧ CodeGood P n a ∧ CodeGood P n b
  | _ => True

/-! ### What a heap stands for -/
/-- a row, as it lies in the world -/
structure RowAt (E : Env) (w : World) (e : Ent) (cs : List AV) : Prop where
  ex : ∃ c t z, w.heap[e.blk]? = some (.cells c t z) ∧ c.size = e.bsz ∧ e.base + cs.length ≤ e.bsz ∧ (z.1 = z.2 ∨ z = (c.size, c.size + 1)) ∧
    RepL E cs ((c.toList.drop e.base).take cs.length)

/-- where a loop over a function stands -/
def LSok (st : LS) (r : Loop) : Prop :=
  match st with
  | .ready => r.state = .ready ∧ r.pending = none
  | .busy => r.state = .busy ∧ r.pending = none
  | .ret => r.state = .done ∧ r.pending = some .ret
  | .exit id => r.state = .done ∧ r.pending = some (.exit id)
  | .over => True

/-- the record of a loop over a function -/
structure LoopAt (P : Program) (E : Env) (w : World) (e : Ent) (la : LoopA) : Prop where
  ex : ∃ r : Loop, w.heap[e.blk]? = some (.loop r) ∧ r.tmps.size = la.n ∧ RepT E la.tm r.tmps ∧ r.params.toList = la.ps ∧ r.assign = la.asg ∧ r.body = la.body ∧ LSok la.st r
  ps : ∀ t ∈ la.ps, t < la.n
  asg : CodeGood P la.n la.asg
  body : CodeGood P la.n la.body

structure RowIs (P : Program) (E : Env) (w : World) (e : Ent) (r : Row) : Prop where
  cells : r.lp = none → RowAt E w e r.cs
  loop : ∀ la, r.lp = some la → LoopAt P E w e la

theorem RowAt.is {P : Program} {E : Env} {w : World} {e : Ent} {r : Row} (h : RowAt E w e r.cs) (hl : r.lp = none) : RowIs P E w e r := ⟨fun _ => h, fun la h' => by rw [hl] at h'; cases h'⟩

/-- the rows g, whose next number is n, in a world -/
structure RepH (P : Program) (E : Env) (g : Nat → Option Row) (w : World) : Prop where
  rows : ∀ id r, g id = some r → ∃ e, E.ids id = some e ∧ e.ver = r.ver ∧ RowIs P E w e r ∧ E.fro e.blk = none
  inj : ∀ i j r s e f, g i = some r → g j = some s → E.ids i = some e → E.ids j = some f → e.blk = f.blk → i = j
  fro : ∀ b c, E.fro b = some c → ∃ t z, w.heap[b]? = some (.cells c t z)

theorem RowAt.block {E : Env} {w : World} {e : Ent} {cs : List AV} {w' : World} (h : RowAt E w e cs) (hb : w'.heap[e.blk]? = w.heap[e.blk]?) : RowAt E w' e cs := by
  obtain ⟨c, t, z, hc, h1⟩ := h.ex
  exact ⟨c, t, z, by rw [hb]; exact hc, h1⟩
theorem RowAt.mono {E : Env} {w : World} {E' : Env} (hE : E.le E') {e : Ent} {cs : List AV} (h : RowAt E w e cs) : RowAt E' w e cs := by
  obtain ⟨c, t, z, hc, h1, h2, h3, h4⟩ := h.ex
  exact ⟨c, t, z, hc, h1, h2, h3, h4.mono hE⟩
/-- a row reads the same where its block is the same -/
theorem RowIs.block {P : Program} {E : Env} {w : World} {e : Ent} {r : Row} {w' : World} (h : RowIs P E w e r) (hb : w'.heap[e.blk]? = w.heap[e.blk]?) : RowIs P E w' e r :=
  ⟨fun hl => (h.cells hl).block hb, fun la hl => by
    obtain ⟨⟨l, h1, h2⟩, h3, h4, h5⟩ := h.loop la hl
    exact ⟨⟨l, by rw [hb]; exact h1, h2⟩, h3, h4, h5⟩⟩
theorem RowIs.mono {P : Program} {E : Env} {w : World} {E' : Env} (hE : E.le E') {e : Ent} {r : Row} (h : RowIs P E w e r) : RowIs P E' w e r :=
  ⟨fun hl => (h.cells hl).mono hE, fun la hl => by
    obtain ⟨⟨l, h1, h2, h6, h7⟩, h3, h4, h5⟩ := h.loop la hl
    exact ⟨⟨l, h1, h2, h6.mono hE, h7⟩, h3, h4, h5⟩⟩
theorem RowIs.lt {P : Program} {E : Env} {w : World} {e : Ent} {r : Row} (h : RowIs P E w e r) : e.blk < w.heap.size := by
  cases hl : r.lp with
  | none => obtain ⟨c, t, z, hc, _⟩ := (h.cells hl).ex; exact (Array.getElem?_eq_some_iff.1 hc).1
  | some la => obtain ⟨⟨l, h1, _⟩, _⟩ := h.loop la hl; exact (Array.getElem?_eq_some_iff.1 h1).1
theorem fits_true {r : Row} {ver : Nat} (h : r.fits ver = true) : r.ver = ver ∧ r.lp = none := by
  unfold Row.fits at h
  split at h
  · rename_i hl; exact ⟨nbeq_true h, hl⟩
  · cases h

/-- What a step leaves: the environment grows, by numbers of N alone; of the world's old blocks none turns but those of the rows; the rows' blocks are those, or new. -/
structure Fr (N : Nat → Prop) (E : Env) (g : Nat → Option Row) (w : World) (E' : Env) (g' : Nat → Option Row) (w' : World) : Prop where
  le : E.le E'
  fro : ∀ b, b < w.heap.size → E'.fro b = E.fro b
  new : ∀ id, E.ids id = none → E'.ids id ≠ none → N id
  same : ∀ id e, E.ids id = some e → g id = none → E'.ids id = some e
  kept : ∀ id, g id ≠ none → g' id ≠ none
  gnew : ∀ id, g id = none → g' id ≠ none → E.ids id = none
  os : w'.os = w.os
  tape : w'.tape = w.tape
  output : w'.output = w.output
  size : w.heap.size ≤ w'.heap.size
  block : ∀ b, b < w.heap.size → (∀ id r e, g id = some r → E.ids id = some e → e.blk ≠ b) → w'.heap[b]? = w.heap[b]?
  own : ∀ id r e, g' id = some r → E'.ids id = some e → w.heap.size ≤ e.blk ∨ ∃ id0 r0 e0, g id0 = some r0 ∧ E.ids id0 = some e0 ∧ e0.blk = e.blk

theorem Fr.refl (N : Nat → Prop) (E : Env) (g : Nat → Option Row) (w : World) : Fr N E g w E g w :=
  ⟨Env.le.refl (E := E), fun _ _ => rfl, fun _ h k => absurd h k, fun _ _ h _ => h, fun _ h => h, fun _ h k => absurd h k, rfl, rfl, rfl, Nat.le_refl _, fun _ _ _ => rfl, fun id r e h k => .inr ⟨id, r, e, h, k, rfl⟩⟩

theorem Fr.mono {N M : Nat → Prop} {E : Env} {g : Nat → Option Row} {w : World} {E' : Env} {g' : Nat → Option Row} {w' : World} (h : Fr M E g w E' g' w') (hn : ∀ id, M id → N id) : Fr N E g w E' g' w' :=
  { h with new := fun id a b => hn id (h.new id a b) }

theorem Fr.trans {N : Nat → Prop} {E0 E1 E2 : Env} {g0 g1 g2 : Nat → Option Row} {w0 w1 w2 : World} (h : Fr N E0 g0 w0 E1 g1 w1) (k : Fr N E1 g1 w1 E2 g2 w2) : Fr N E0 g0 w0 E2 g2 w2 where
  le := h.le.trans k.le
  fro := fun b hb => (k.fro b (Nat.lt_of_lt_of_le hb h.size)).trans (h.fro b hb)
  new := fun id a b => by
    by_cases h1 : E1.ids id = none
    · exact k.new id h1 b
    · exact h.new id a h1
  same := fun id e a b => by
    refine k.same id e (h.same id e a b) ?_
    cases hg : g1 id with
    | none => rfl
    | some r =>
      have := h.gnew id b (by rw [hg]; simp)
      rw [a] at this; cases this
  kept := fun id a => k.kept id (h.kept id a)
  gnew := fun id a b => by
    by_cases h1 : g1 id = none
    · have := k.gnew id h1 b
      cases he : E0.ids id with
      | none => rfl
      | some e => rw [h.same id e he a] at this; cases this
    · exact h.gnew id a h1
  os := k.os.trans h.os
  tape := k.tape.trans h.tape
  output := k.output.trans h.output
  size := Nat.le_trans h.size k.size
  block := fun b hb hn => by
    rw [k.block b (Nat.lt_of_lt_of_le hb h.size) ?_, h.block b hb hn]
    intro id r e hg he hbe
    rcases h.own id r e hg he with h1 | ⟨id0, r0, e0, hg0, he0, hb0⟩
    · omega
    · exact hn id0 r0 e0 hg0 he0 (by omega)
  own := fun id r e hg he => by
    rcases k.own id r e hg he with h1 | ⟨id1, r1, e1, hg1, he1, hb1⟩
    · exact .inl (Nat.le_trans h.size h1)
    · rcases h.own id1 r1 e1 hg1 he1 with h2 | ⟨id0, r0, e0, hg0, he0, hb0⟩
      · exact .inl (by omega)
      · exact .inr ⟨id0, r0, e0, hg0, he0, by omega⟩

/-- fewer rows -/
theorem RepH.sub {P : Program} {E : Env} {g g' : Nat → Option Row} {w : World} (h : RepH P E g w) (hs : ∀ id r, g' id = some r → g id = some r) : RepH P E g' w :=
  ⟨fun id r hg => h.rows id r (hs id r hg), fun i j r s e f hi hj => h.inj i j r s e f (hs i r hi) (hs j s hj), h.fro⟩

theorem repV_undef (E : Env) : RepV E undefA undef := by
  unfold undefA undef; simp only [RepV]; exact ⟨#[], rfl, RepL.nil⟩

theorem Tm.val_set (tm : Tm) (d : Nat) (v : AV) (t : Nat) : Tm.val (Tr.set tm d v) t = if t = d then v else tm.val t := by
  unfold Tm.val
  rw [Tr.get_set]
  split <;> rfl

theorem RepT.put {E : Env} {tm : Tm} {a : Array Value} (h : RepT E tm a) {d : Nat} (hd : d < a.size) {x : AV} {v : Value} (hv : RepV E x v) : RepT E (Tr.set tm d x) (a.setIfInBounds d v) := by
  intro t
  rw [Tm.val_set]
  by_cases e : t = d
  · subst e
    rw [if_pos rfl]
    simpa [Array.getD, hd] using hv
  · rw [if_neg e]
    have := h t
    have e2 : (a.setIfInBounds d v).getD t undef = a.getD t undef := by
      simp only [Array.getD_eq_getD_getElem?, Array.getElem?_setIfInBounds]
      rw [if_neg (by omega)]
    rw [e2]; exact this

theorem repV_evo {E : Env} {tm : Tm} {a : Act} (h : RepT E tm a.tmps) (x : Operand) : RepV E (evo tm x) (a.eval x) := by
  cases x with
  | tmp t => exact h t
  | const v => exact repV_toAV E v
  | global g => simp only [evo, Act.eval, RepV]
  | func f => simp only [evo, Act.eval, RepV]; exact ⟨_, #[], #[], rfl, rfl, RepL.nil, RepL.nil⟩

theorem repL_evos {E : Env} {tm : Tm} {a : Act} : ∀ (l : List Operand), (∀ x ∈ l, RepV E (evo tm x) (a.eval x)) → RepL E (evos tm l) (l.map a.eval)
  | [], _ => RepL.nil
  | x :: l, h => RepL.cons (h x (by simp)) (repL_evos l fun y hy => h y (by simp [hy]))

end Go.Proofs.YtckcgijepiejlaaGreat.Ae
