/-
  CALLS IN A SMALL HEAP: what a call does that knows no row, or its receiver's row alone, it does in any heap; what it made is handed on as memory that nobody writes any more (or as one new object).
-/
import Derived.Test.YtckcgijepiejlaaGreatAeCall
namespace Go.Proofs.YtckcgijepiejlaaGreat.Ae
open Go
set_option linter.unusedVariables false
set_option linter.unusedSimpArgs false
set_option linter.unnecessarySimpa false
variable {P : Program}

/-- what a call comes to, told of all worlds that its heap stands for -/
def Sound (P : Program) (f : Fn) (args : List AV) (h : AH) (r : CR) : Prop :=
  ∀ E w (cargs : Array Value) f', FnOk E f f' → RepL E args cargs.toList → RepH P E h.get w → Fresh E h.next → CallOk P f' cargs w (CRok P (fun id => h.next ≤ id) E h w r)

theorem CallSound.of {call : CallF} (h : ∀ f args k r, call f args k = some r → Sound P f args k r) : CallSound P call :=
  fun f args k r hr => h f args k r hr
theorem CallSound.at {call : CallF} (hc : CallSound P call) {f : Fn} {args : List AV} {h : AH} {r : CR} (hr : call f args h = some r) : Sound P f args h r := hc f args h r hr

theorem CallOk.mono {f : Fn} {args : Array Value} {w : World} {R R' : Ending → World → Prop} (h : CallOk P f args w R) (hr : ∀ e w', R e w' → R' e w') : CallOk P f args w R' := by
  rcases h with ⟨g, gs, h1, h2⟩ | ⟨v, w', h1, h2⟩ | ⟨l, fn, tmps, as, bd, h1, h2⟩
  · exact .inl ⟨g, gs, h1, h2.mono hr⟩
  · exact .inr (.inl ⟨v, w', h1, hr _ _ h2⟩)
  · refine .inr (.inr ⟨l, fn, tmps, as, bd, h1, fun c cs => ?_⟩)
    obtain ⟨e, w', h3, h4⟩ := h2 c cs
    exact ⟨e, w', hr _ _ h3, h4⟩

/-! ### values that know no row -/
mutual
def Clo : AV → Prop
  | .ptr _ _ _ => False
  | .sl _ _ _ _ _ _ => False
  | .fptr cs => CloL cs
  | .fsl cs _ _ _ => CloL cs
  | .fn (.func _) x y => CloL x ∧ CloL y
  | .fn _ _ _ => False
  | .iface _ v => Clo v
  | .agg cs => CloL cs
  | .tup cs => CloL cs
  | _ => True
def CloL : List AV → Prop
  | [] => True
  | c :: cs => Clo c ∧ CloL cs
end

theorem CloL.of_forall : ∀ {l : List AV}, (∀ v ∈ l, Clo v) → CloL l
  | [], _ => trivial
  | c :: l, h => ⟨h c (by simp), CloL.of_forall fun v hv => h v (by simp [hv])⟩
theorem CloL.append : ∀ {l m : List AV}, CloL l → CloL m → CloL (l ++ m)
  | [], _, _, h => h
  | c :: l, _, h, k => ⟨h.1, CloL.append h.2 k⟩

/-- FROZEN: a value, as it is told behind a call: rows of g are memory that nobody writes any more; 'ren': rows that are handed on, by their number there. -/
inductive FrzX (g : Nat → Option Row) (ren : Nat → Option Nat) : Bool → List AV → List AV → Prop
  | nil : FrzX g ren true [] []
  | cons {v v' l l'} : FrzX g ren false [v] [v'] → FrzX g ren true l l' → FrzX g ren true (v :: l) (v' :: l')
  | clo {v} : Clo v → FrzX g ren false [v] [v]
  | ptr {id i ver off} : ren id = some i → FrzX g ren false [.ptr id ver off] [.ptr i ver off]
  | fptr {id ver off r cs'} : g id = some r → r.fits ver = true → FrzX g ren true (r.cs.drop off) cs' → FrzX g ren false [.ptr id ver off] [.fptr cs']
  | sl {id ver off sz len cap cap' r cs cs'} : g id = some r → r.fits ver = true → takeN (len * sz) (r.cs.drop off) = some cs → FrzX g ren true cs cs' → (∀ c, cap' = some c → cap = some c) → FrzX g ren false [.sl id ver off sz len cap] [.fsl cs' sz len cap']
  | agg {cs cs'} : FrzX g ren true cs cs' → FrzX g ren false [.agg cs] [.agg cs']
  | tup {cs cs'} : FrzX g ren true cs cs' → FrzX g ren false [.tup cs] [.tup cs']
  | iface {t v v'} : FrzX g ren false [v] [v'] → FrzX g ren false [.iface t v] [.iface t v']

def Frz (g : Nat → Option Row) (ren : Nat → Option Nat) (v v' : AV) : Prop := FrzX g ren false [v] [v']
def FrzL (g : Nat → Option Row) (ren : Nat → Option Nat) (l l' : List AV) : Prop := FrzX g ren true l l'

theorem FrzL.clo {g : Nat → Option Row} {ren : Nat → Option Nat} : ∀ {l : List AV}, CloL l → FrzL g ren l l
  | [], _ => .nil
  | c :: l, h => .cons (.clo h.1) (FrzL.clo h.2)

/-- what is known of two environments -/
structure FrzE (E E2 : Env) (g : Nat → Option Row) (ren : Nat → Option Nat) (w : World) : Prop where
  fro : ∀ b c, E.fro b = some c → E2.fro b = some c
  rows : ∀ id r, g id = some r → r.lp = none → ∃ e c t z, E.ids id = some e ∧ e.ver = r.ver ∧ w.heap[e.blk]? = some (.cells c t z) ∧ E2.fro e.blk = some c ∧ RepL E r.cs ((c.toList.drop e.base).take r.cs.length)
  ren : ∀ id i e, ren id = some i → E.ids id = some e → E2.ids i = some e

mutual
theorem Clo.rep {E E2 : Env} (hf : ∀ b c, E.fro b = some c → E2.fro b = some c) : ∀ (v : AV) (u : Value), Clo v → RepV E v u → RepV E2 v u
  | .bool _, _, _, h | .int _ _, _, _, h | .str _, _, _, h | .nilp, _, _, h | .gptr _, _, _, h | .nils, _, _, h | .nilFn, _, _, h | .nilIf, _, _, h | .nilMap, _, _, h | .raw _, _, _, h => by simpa only [RepV] using h
  | .ptr _ _ _, _, hc, _ => hc.elim
  | .sl _ _ _ _ _ _, _, hc, _ => hc.elim
  | .fptr cs, u, hc, h => by
    simp only [RepV] at h ⊢
    obtain ⟨b, o, c, rfl, hb, hl⟩ := h
    exact ⟨b, o, c, rfl, hf b c hb, CloL.rep hf _ _ hc hl⟩
  | .fsl cs sz len cap, u, hc, h => by
    simp only [RepV] at h ⊢
    obtain ⟨b, o, c, capc, rfl, h1, h2, h3, hb, hl⟩ := h
    exact ⟨b, o, c, capc, rfl, h1, h2, h3, hf b c hb, CloL.rep hf _ _ hc hl⟩
  | .fn f x y, u, hc, h => by
    cases f with
    | func g =>
      simp only [RepV] at h ⊢
      obtain ⟨f', p, q, rfl, h0, h1, h2⟩ := h
      exact ⟨f', p, q, rfl, h0, CloL.rep hf _ _ hc.1 h1, CloL.rep hf _ _ hc.2 h2⟩
    | _ => exact (show False from hc).elim
  | .iface t x, u, hc, h => by
    simp only [RepV] at h ⊢
    obtain ⟨y, rfl, h1⟩ := h
    exact ⟨y, rfl, Clo.rep hf _ _ hc h1⟩
  | .agg cs, u, hc, h => by
    simp only [RepV] at h ⊢
    obtain ⟨x, rfl, h1⟩ := h
    exact ⟨x, rfl, CloL.rep hf _ _ hc h1⟩
  | .tup cs, u, hc, h => by
    simp only [RepV] at h ⊢
    obtain ⟨x, rfl, h1⟩ := h
    exact ⟨x, rfl, CloL.rep hf _ _ hc h1⟩
theorem CloL.rep {E E2 : Env} (hf : ∀ b c, E.fro b = some c → E2.fro b = some c) : ∀ (l : List AV) (us : List Value), CloL l → RepL E l us → RepL E2 l us
  | [], _, _, h => by simpa only [RepL] using h
  | c :: cs, us, hc, h => by
    simp only [RepL] at h ⊢
    obtain ⟨v, r, rfl, h1, h2⟩ := h
    exact ⟨v, r, rfl, Clo.rep hf _ _ hc.1 h1, CloL.rep hf _ _ hc.2 h2⟩
end

theorem FrzX.rep {E E2 : Env} {g : Nat → Option Row} {ren : Nat → Option Nat} {w : World} (hE : FrzE E E2 g ren w) {m : Bool} {l l' : List AV} (h : FrzX g ren m l l') : ∀ us, RepL E l us → RepL E2 l' us := by
  have one : ∀ {v v' : AV}, (∀ u, RepV E v u → RepV E2 v' u) → ∀ us, RepL E [v] us → RepL E2 [v'] us := by
    intro v v' h us hu
    obtain ⟨u, r, rfl, h1, h2⟩ := hu.uncons
    have := h2.nil_inv; subst this
    exact RepL.cons (h u h1) RepL.nil
  have unone : ∀ {v v' : AV}, (∀ us, RepL E [v] us → RepL E2 [v'] us) → ∀ u, RepV E v u → RepV E2 v' u := by
    intro v v' h u hu
    exact (h [u] (RepL.cons hu RepL.nil)).cons_inv.1
  induction h with
  | nil => intro us hu; have := hu.nil_inv; subst this; exact RepL.nil
  | cons h1 h2 ih1 ih2 =>
    intro us hu
    obtain ⟨u, r, rfl, h3, h4⟩ := hu.uncons
    exact RepL.cons (unone ih1 u h3) (ih2 r h4)
  | clo hc => exact one fun u hu => Clo.rep hE.fro _ u hc hu
  | @ptr id i ver off hr =>
    refine one fun u hu => ?_
    simp only [RepV] at hu ⊢
    obtain ⟨b, o, rfl, e, he, hv, hp⟩ := hu
    exact ⟨b, o, rfl, e, hE.ren id i e hr he, hv, hp⟩
  | @fptr id ver off r cs' hg hft hcs ih =>
    refine one fun u hu => ?_
    simp only [RepV] at hu ⊢
    obtain ⟨b, o, rfl, e, he, hv, hp⟩ := hu
    obtain ⟨hver, hlp⟩ := fits_true hft
    obtain ⟨e1, c, t, z, he1, hv1, hc, hf, hl⟩ := hE.rows id r hg hlp
    rw [he] at he1; cases he1
    obtain ⟨rfl, rfl⟩ := hp (hv1.trans hver)
    refine ⟨_, _, c, rfl, hf, ?_⟩
    have h1 := ih _ (RepL.drop off hl)
    have hlen := h1.length
    rw [List.drop_take, List.drop_drop] at h1
    have h2 := RepL.take cs'.length h1
    rw [List.take_length, List.take_take] at h2
    rw [List.drop_take, List.drop_drop] at hlen
    simp only [List.length_take] at hlen
    rw [show min cs'.length (r.cs.length - off) = cs'.length by omega] at h2
    exact h2
  | @sl id ver off sz len cap cap' r cs cs' hg hft htk hcs hcap ih =>
    refine one fun u hu => ?_
    simp only [RepV] at hu ⊢
    obtain ⟨b, o, capc, rfl, hlen, hcapc, e, he, hv, hp⟩ := hu
    obtain ⟨hver, hlp⟩ := fits_true hft
    obtain ⟨e1, c, t, z, he1, hv1, hc, hf, hl⟩ := hE.rows id r hg hlp
    rw [he] at he1; cases he1
    obtain ⟨rfl, ho, _⟩ := hp (hv1.trans hver)
    obtain ⟨hcs0, hcslen⟩ := takeN_eq htk
    subst hcs0
    have h1 := ih _ (RepL.take (len * sz) (RepL.drop off hl))
    have hl' : cs'.length = len * sz := by
      have h2 := h1.length
      have h3 := (RepL.take (len * sz) (RepL.drop off hl)).length
      rw [hcslen] at h3; omega
    refine ⟨_, _, c, capc, rfl, hlen, fun c' h' => hcapc c' (hcap c' h'), hl', hf, ?_⟩
    rcases ho with rfl | h0
    · rw [List.drop_take, List.drop_drop, List.take_take] at h1
      have h2 := h1.length
      simp only [List.length_take] at h2
      rw [show min (len * sz) (r.cs.length - off) = len * sz by rw [List.length_take, List.length_drop] at hcslen; omega] at h1
      rw [hl']
      exact h1
    · have : len = 0 := by omega
      subst this
      have : cs' = [] := List.length_eq_zero_iff.1 (by omega)
      subst this
      simpa using RepL.nil
  | agg hcs ih =>
    refine one fun u hu => ?_
    simp only [RepV] at hu ⊢
    obtain ⟨x, rfl, h1⟩ := hu
    exact ⟨x, rfl, ih _ h1⟩
  | tup hcs ih =>
    refine one fun u hu => ?_
    simp only [RepV] at hu ⊢
    obtain ⟨x, rfl, h1⟩ := hu
    exact ⟨x, rfl, ih _ h1⟩
  | iface h1 ih =>
    refine one fun u hu => ?_
    simp only [RepV] at hu ⊢
    obtain ⟨y, rfl, h2⟩ := hu
    exact ⟨y, rfl, unone ih y h2⟩

theorem Frz.rep {E E2 : Env} {g : Nat → Option Row} {ren : Nat → Option Nat} {w : World} (hE : FrzE E E2 g ren w) {v v' : AV} (h : Frz g ren v v') {u : Value} (hu : RepV E v u) : RepV E2 v' u :=
  (FrzX.rep hE h [u] (RepL.cons hu RepL.nil)).cons_inv.1

/-- what is frozen behind a call: the cells of all blocks that it made, but one -/
def froz (E : Env) (w w' : World) (but : Option Nat) (b : Nat) : Option (Array Value) :=
  if b < w.heap.size then E.fro b else if but = some b then none else match w'.heap[b]? with
    | some (.cells c _ _) => some c
    | _ => none

theorem empty_get' (id : Nat) : AH.empty.get id = none := Tr.get_leaf id

theorem fro_lt {E : Env} {w : World} {g : Nat → Option Row} (hH : RepH P E g w) {b : Nat} {c : Array Value} (h : E.fro b = some c) : b < w.heap.size := by
  obtain ⟨t, z, hc⟩ := hH.fro b c h
  exact (Array.getElem?_eq_some_iff.1 hc).1

/-- A PURE CALL: its arguments know no row, and it was run in the empty heap. -/
theorem pure_sound {f : Nat} {args : List AV} {v v' : AV} {h' : AH} (hs : Sound P (.func f) args AH.empty (.val v h')) (hc : CloL args) (hz : Frz h'.get (fun _ => none) v v') (h : AH) : Sound P (.func f) args h (.val v' h) := by
  intro E w cargs f' hf hl hH hF
  let E0 : Env := ⟨fun _ => none, E.fro⟩
  have hl0 : RepL E0 args cargs.toList := CloL.rep (E := E) (E2 := E0) (fun b c h => h) _ _ hc hl
  have hH0 : RepH P E0 AH.empty.get w := ⟨fun id r h => (by rw [empty_get'] at h; cases h), fun i j r s e f h => (by rw [empty_get'] at h; cases h), hH.fro⟩
  refine (hs E0 w cargs f' hf hl0 hH0 (fun _ _ => rfl)).mono ?_
  rintro e w' ⟨u, E', rfl, hu, hp⟩
  have hblock : ∀ b, b < w.heap.size → w'.heap[b]? = w.heap[b]? := fun b hb => hp.fr.block b hb fun id r e h => by rw [empty_get'] at h; cases h
  have hown : ∀ id r e, h'.get id = some r → E'.ids id = some e → w.heap.size ≤ e.blk := fun id r e h1 h2 => by
    rcases hp.fr.own id r e h1 h2 with h3 | ⟨_, _, _, h3, _⟩
    · exact h3
    · rw [empty_get'] at h3; cases h3
  let E2 : Env := ⟨E.ids, froz E w w' none⟩
  have hfro : ∀ b c, E.fro b = some c → E2.fro b = some c := fun b c hb => by
    show froz E w w' none b = _
    unfold froz; rw [if_pos (fro_lt hH hb)]; exact hb
  have hle : E.le E2 := ⟨fun id e he => ⟨e, he, .inl rfl⟩, hfro⟩
  have hX : FrzE E' E2 h'.get (fun _ => none) w' := by
    refine ⟨fun b c hb => ?_, fun id r hg hlp => ?_, fun id i e h => by cases h⟩
    · show froz E w w' none b = _
      unfold froz
      by_cases hlt : b < w.heap.size
      · rw [if_pos hlt]
        have := hp.fr.fro b hlt
        rw [hb] at this; exact this.symm
      · rw [if_neg hlt, if_neg (by simp)]
        obtain ⟨t, z, hc'⟩ := hp.rep.fro b c hb
        rw [hc']
    · obtain ⟨e, he, hv, hri, _⟩ := hp.rep.rows id r hg
      obtain ⟨c, t, z, hc', _, _, _, hl'⟩ := (hri.cells hlp).ex
      refine ⟨e, c, t, z, he, hv, hc', ?_, hl'⟩
      show froz E w w' none e.blk = _
      unfold froz
      rw [if_neg (by have := hown id r e hg he; omega), if_neg (by simp), hc']
  refine ⟨u, E2, rfl, hz.rep hX hu, ⟨⟨fun id r hg => ?_, hH.inj, fun b c hb => ?_⟩, ?_, Nat.le_refl _, hF⟩⟩
  · obtain ⟨e, he, hv, hri, hf0⟩ := hH.rows id r hg
    refine ⟨e, he, hv, (hri.block (hblock e.blk hri.lt)).mono hle, ?_⟩
    show froz E w w' none e.blk = _
    unfold froz; rw [if_pos hri.lt]; exact hf0
  · have hb : froz E w w' none b = some c := hb
    unfold froz at hb
    by_cases hlt : b < w.heap.size
    · rw [if_pos hlt] at hb
      obtain ⟨t, z, h1⟩ := hH.fro b c hb
      exact ⟨t, z, by rw [hblock b hlt]; exact h1⟩
    · rw [if_neg hlt, if_neg (by simp)] at hb
      split at hb
      · rename_i c' t z hc'; cases hb; exact ⟨t, z, hc'⟩
      · cases hb
  · exact ⟨hle, fun b hb => (by show froz E w w' none b = _; unfold froz; rw [if_pos hb]), fun id h1 h2 => absurd h1 h2, fun id e h1 _ => h1, fun id h => h, fun id h1 h2 => absurd h1 h2, hp.fr.os, hp.fr.tape, hp.fr.output, hp.fr.size, fun b hb _ => hblock b hb, fun id r e h1 h2 => .inr ⟨id, r, e, h1, h2, rfl⟩⟩

/-- A CALL THAT MAKES ONE OBJECT: that is a row of the heap behind it. -/
theorem object_sound {f : Nat} {args : List AV} {v v' : AV} {h' : AH} {jn : Nat} {cs cs' : List AV} (hs : Sound P (.func f) args AH.empty (.val v h')) (hc : CloL args) (hj : h'.get jn = some ⟨0, cs, none⟩) (h : AH)
    (hz : Frz (fun id => if id = jn then none else h'.get id) (fun id => if id = jn then some h.next else none) v v')
    (hcs : FrzL (fun id => if id = jn then none else h'.get id) (fun id => if id = jn then some h.next else none) cs cs') :
    Sound P (.func f) args h (.val v' ⟨h.next + 1, h.tr.set h.next ⟨0, cs', none⟩⟩) := by
  intro E w cargs f' hf hl hH hF
  let E0 : Env := ⟨fun _ => none, E.fro⟩
  have hl0 : RepL E0 args cargs.toList := CloL.rep (E := E) (E2 := E0) (fun b c h => h) _ _ hc hl
  have hH0 : RepH P E0 AH.empty.get w := ⟨fun id r h => (by rw [empty_get'] at h; cases h), fun i j r s e f h => (by rw [empty_get'] at h; cases h), hH.fro⟩
  refine (hs E0 w cargs f' hf hl0 hH0 (fun _ _ => rfl)).mono ?_
  rintro e w' ⟨u, E', rfl, hu, hp⟩
  have hblock : ∀ b, b < w.heap.size → w'.heap[b]? = w.heap[b]? := fun b hb => hp.fr.block b hb fun id r e h => by rw [empty_get'] at h; cases h
  have hown : ∀ id r e, h'.get id = some r → E'.ids id = some e → w.heap.size ≤ e.blk := fun id r e h1 h2 => by
    rcases hp.fr.own id r e h1 h2 with h3 | ⟨_, _, _, h3, _⟩
    · exact h3
    · rw [empty_get'] at h3; cases h3
  obtain ⟨en, hen, hvn, hrn, _⟩ := hp.rep.rows jn _ hj
  have hnb := hown jn _ en hj hen
  let E2 : Env := ⟨fun id => if id = h.next then some en else E.ids id, froz E w w' (some en.blk)⟩
  have hnone : E.ids h.next = none := hF _ (Nat.le_refl _)
  have hne : ∀ {id e}, E.ids id = some e → id ≠ h.next := fun {id e} he hx => by subst hx; rw [hnone] at he; cases he
  have hids : ∀ id e, E.ids id = some e → E2.ids id = some e := fun id e he => by
    show (if id = h.next then some en else E.ids id) = _
    rw [if_neg (hne he)]; exact he
  have hfro : ∀ b c, E.fro b = some c → E2.fro b = some c := fun b c hb => by
    show froz E w w' (some en.blk) b = _
    unfold froz; rw [if_pos (fro_lt hH hb)]; exact hb
  have hle : E.le E2 := ⟨fun id e he => ⟨e, hids id e he, .inl rfl⟩, hfro⟩
  have hX : FrzE E' E2 (fun id => if id = jn then none else h'.get id) (fun id => if id = jn then some h.next else none) w' := by
    refine ⟨fun b c hb => ?_, fun id r hg hlp => ?_, fun id i e hr he => ?_⟩
    · show froz E w w' (some en.blk) b = _
      unfold froz
      by_cases hlt : b < w.heap.size
      · rw [if_pos hlt]
        have := hp.fr.fro b hlt
        rw [hb] at this; exact this.symm
      · obtain ⟨t, z, hc'⟩ := hp.rep.fro b c hb
        have hbn : en.blk ≠ b := by
          obtain ⟨e1, he1, _, _, hf1⟩ := hp.rep.rows jn _ hj
          rw [hen] at he1; cases he1
          intro hx; rw [hx, hb] at hf1; cases hf1
        rw [if_neg hlt, if_neg (by simpa using hbn), hc']
    · have hg : (if id = jn then none else h'.get id) = some r := hg
      by_cases hid : id = jn
      · rw [if_pos hid] at hg; cases hg
      · rw [if_neg hid] at hg
        obtain ⟨e, he, hv, hri, _⟩ := hp.rep.rows id r hg
        obtain ⟨c, t, z, hc', _, _, _, hl'⟩ := (hri.cells hlp).ex
        refine ⟨e, c, t, z, he, hv, hc', ?_, hl'⟩
        show froz E w w' (some en.blk) e.blk = _
        unfold froz
        have hbn : en.blk ≠ e.blk := fun hx => hid (hp.rep.inj id jn r _ e en hg hj he hen hx.symm)
        rw [if_neg (by have := hown id r e hg he; omega), if_neg (by simpa using hbn), hc']
    · have hr : (if id = jn then some h.next else none) = some i := hr
      by_cases hid : id = jn
      · rw [if_pos hid] at hr; cases hr
        subst hid
        rw [hen] at he; cases he
        show (if h.next = h.next then some en else E.ids h.next) = _
        rw [if_pos rfl]
      · rw [if_neg hid] at hr; cases hr
  let H2 : AH := ⟨h.next + 1, h.tr.set h.next ⟨0, cs', none⟩⟩
  have hget : ∀ id, H2.get id = if id = h.next then some ⟨0, cs', none⟩ else h.get id := fun id => by
    show (h.tr.set h.next _).get id = _
    rw [Tr.get_set]; rfl
  refine ⟨u, E2, rfl, hz.rep hX hu, ⟨⟨fun id r hg => ?_, fun i j r s ei ej hi hj' hei hej hb => ?_, fun b c hb => ?_⟩, ?_, Nat.le_succ _, fun id hid => ?_⟩⟩
  · have hg : H2.get id = some r := hg
    rw [hget] at hg
    by_cases hid : id = h.next
    · rw [if_pos hid] at hg; cases hg
      subst hid
      obtain ⟨c, t, z, h1, h2, h3, h4, h5⟩ := (hrn.cells rfl).ex
      have h6 := FrzX.rep hX hcs _ h5
      have hlen : cs'.length = cs.length := by
        have := h6.length
        rw [this, ← h5.length]
      refine ⟨en, ?_, hvn, RowAt.is ⟨c, t, z, h1, h2, by rw [hlen]; exact h3, h4, by rw [hlen]; exact h6⟩ rfl, ?_⟩
      · show (if h.next = h.next then some en else E.ids h.next) = _
        rw [if_pos rfl]
      · show froz E w w' (some en.blk) en.blk = _
        unfold froz
        rw [if_neg (by omega), if_pos rfl]
    · rw [if_neg hid] at hg
      obtain ⟨e, he, hv, hri, hf0⟩ := hH.rows id r hg
      refine ⟨e, hids id e he, hv, (hri.block (hblock e.blk hri.lt)).mono hle, ?_⟩
      show froz E w w' (some en.blk) e.blk = _
      unfold froz; rw [if_pos hri.lt]; exact hf0
  · have hi : H2.get i = some r := hi
    have hj' : H2.get j = some s := hj'
    rw [hget] at hi hj'
    have hei : (if i = h.next then some en else E.ids i) = some ei := hei
    have hej : (if j = h.next then some en else E.ids j) = some ej := hej
    by_cases h1 : i = h.next <;> by_cases h2 : j = h.next
    · rw [h1, h2]
    · rw [if_pos h1] at hei; rw [if_neg h2] at hej hj'
      cases hei
      obtain ⟨e0, he0, _, hri0, _⟩ := hH.rows j s hj'
      rw [hej] at he0; cases he0
      have := hri0.lt; omega
    · rw [if_pos h2] at hej; rw [if_neg h1] at hei hi
      cases hej
      obtain ⟨e0, he0, _, hri0, _⟩ := hH.rows i r hi
      rw [hei] at he0; cases he0
      have := hri0.lt; omega
    · rw [if_neg h1] at hei hi; rw [if_neg h2] at hej hj'
      exact hH.inj i j r s ei ej hi hj' hei hej hb
  · have hb : froz E w w' (some en.blk) b = some c := hb
    unfold froz at hb
    by_cases hlt : b < w.heap.size
    · rw [if_pos hlt] at hb
      obtain ⟨t, z, h1⟩ := hH.fro b c hb
      exact ⟨t, z, by rw [hblock b hlt]; exact h1⟩
    · rw [if_neg hlt] at hb
      split at hb
      · cases hb
      · split at hb
        · rename_i c' t z hc'; cases hb; exact ⟨t, z, hc'⟩
        · cases hb
  · refine ⟨hle, fun b hb => (by show froz E w w' (some en.blk) b = _; unfold froz; rw [if_pos hb]), fun id h1 h2 => ?_, fun id e h1 _ => hids id e h1, fun id h3 => ?_, fun id h3 h4 => ?_, hp.fr.os, hp.fr.tape, hp.fr.output, hp.fr.size, fun b hb _ => hblock b hb, fun id r e h1 h2 => ?_⟩
    · have h2 : (if id = h.next then some en else E.ids id) ≠ none := h2
      by_cases hid : id = h.next
      · omega
      · rw [if_neg hid] at h2; exact absurd h1 h2
    · show H2.get id ≠ none
      rw [hget]; split
      · simp
      · exact h3
    · have h4 : H2.get id ≠ none := h4
      rw [hget] at h4
      by_cases hid : id = h.next
      · subst hid; exact hnone
      · rw [if_neg hid] at h4; exact absurd h3 h4
    · have h1 : H2.get id = some r := h1
      have h2 : (if id = h.next then some en else E.ids id) = some e := h2
      rw [hget] at h1
      by_cases hid : id = h.next
      · rw [if_pos hid] at h2; cases h2; exact .inl hnb
      · rw [if_neg hid] at h1 h2; exact .inr ⟨id, r, e, h1, h2, rfl⟩
  · show (if id = h.next then some en else E.ids id) = none
    have hid : h.next + 1 ≤ id := hid
    rw [if_neg (by omega)]
    exact hF id (by omega)

/-- the heap of a call on one row -/
noncomputable def oneRow (cs : List AV) : AH := ⟨1, Tr.set .leaf 0 ⟨0, cs, none⟩⟩
theorem oneRow_get (cs : List AV) (id : Nat) : (oneRow cs).get id = if id = 0 then some ⟨0, cs, none⟩ else none := by
  show (Tr.set .leaf 0 _).get id = _
  rw [Tr.get_set, Tr.get_leaf]

/-- A CALL ON AN OBJECT: it knows its row alone, which it may turn. -/
theorem method_sound {f : Nat} {args : List AV} {v v' : AV} {h' : AH} {cs cs1 cs' : List AV} (hs : Sound P (.func f) (.ptr 0 0 0 :: args) (oneRow cs) (.val v h')) (hc : CloL args) (hcc : CloL cs) (hj : h'.get 0 = some ⟨0, cs1, none⟩) (h : AH) (i : Nat) (hi : h.get i = some ⟨0, cs, none⟩)
    (hz : Frz (fun id => if id = 0 then none else h'.get id) (fun id => if id = 0 then some i else none) v v')
    (hcs : FrzL (fun id => if id = 0 then none else h'.get id) (fun id => if id = 0 then some i else none) cs1 cs') :
    Sound P (.func f) (.ptr i 0 0 :: args) h (.val v' (h.put i ⟨0, cs', none⟩)) := by
  intro E w cargs f' hf hl hH hF
  obtain ⟨e0, he0, hv0, hr0, hf0⟩ := hH.rows i _ hi
  let E0 : Env := ⟨fun id => if id = 0 then some e0 else none, E.fro⟩
  have hE00 : E0.ids 0 = some e0 := by show (if (0 : Nat) = 0 then some e0 else none) = _; rw [if_pos rfl]
  have hl0 : RepL E0 (.ptr 0 0 0 :: args) cargs.toList := by
    obtain ⟨u, r, hu, h1, h2⟩ := hl.uncons
    rw [hu]
    refine RepL.cons ?_ (CloL.rep (E := E) (E2 := E0) (fun b c h => h) _ _ hc h2)
    simp only [RepV] at h1 ⊢
    obtain ⟨b, o, rfl, e, he, hv, hp⟩ := h1
    rw [he0] at he; cases he
    exact ⟨b, o, rfl, e0, hE00, hv, hp⟩
  have hH0 : RepH P E0 (oneRow cs).get w := by
    refine ⟨fun id r hg => ?_, fun a b r s ea eb ha hb hea heb hx => ?_, hH.fro⟩
    · rw [oneRow_get] at hg
      by_cases hid : id = 0
      · rw [if_pos hid] at hg; cases hg; subst hid
        obtain ⟨c, t, z, h1, h2, h3, h4, h5⟩ := (hr0.cells rfl).ex
        exact ⟨e0, hE00, hv0, RowAt.is ⟨c, t, z, h1, h2, h3, h4, CloL.rep (E := E) (E2 := E0) (fun b c h => h) _ _ hcc h5⟩ rfl, hf0⟩
      · rw [if_neg hid] at hg; cases hg
    · rw [oneRow_get] at ha hb
      by_cases h1 : a = 0
      · by_cases h2 : b = 0
        · rw [h1, h2]
        · rw [if_neg h2] at hb; cases hb
      · rw [if_neg h1] at ha; cases ha
  have hF0 : Fresh E0 (oneRow cs).next := fun id hid => by
    show (if id = 0 then some e0 else none) = none
    have hid : 1 ≤ id := hid
    rw [if_neg (by omega)]
  refine (hs E0 w cargs f' hf hl0 hH0 hF0).mono ?_
  rintro e w' ⟨u, E', rfl, hu, hp⟩
  have hblock : ∀ b, b < w.heap.size → b ≠ e0.blk → w'.heap[b]? = w.heap[b]? := fun b hb hne => hp.fr.block b hb fun id r e h1 h2 => by
    rw [oneRow_get] at h1
    by_cases hid : id = 0
    · subst hid; rw [hE00] at h2; cases h2; exact fun hx => hne hx.symm
    · rw [if_neg hid] at h1; cases h1
  have hlt0 : e0.blk < w.heap.size := hr0.lt
  obtain ⟨en, hen, hvn, hrn, hfn⟩ := hp.rep.rows 0 _ hj
  have : en = e0 := by
    obtain ⟨e1, he1, hx⟩ := hp.fr.le.ids 0 e0 hE00
    rw [hen] at he1; cases he1
    rcases hx with hx | hx
    · exact hx
    · have h1 : e0.ver = 0 := hv0
      have h2 : en.ver = 0 := hvn
      omega
  subst this
  have hown : ∀ id r e, id ≠ 0 → h'.get id = some r → E'.ids id = some e → w.heap.size ≤ e.blk := fun id r e hid h1 h2 => by
    rcases hp.fr.own id r e h1 h2 with h3 | ⟨id0, r0, e1, h3, h4, h5⟩
    · exact h3
    · rw [oneRow_get] at h3
      by_cases hid0 : id0 = 0
      · subst hid0
        rw [hE00] at h4; cases h4
        exact absurd (hp.rep.inj id 0 r _ e _ h1 hj h2 hen h5.symm) hid
      · rw [if_neg hid0] at h3; cases h3
  let E2 : Env := ⟨E.ids, froz E w w' none⟩
  have hfro : ∀ b c, E.fro b = some c → E2.fro b = some c := fun b c hb => by
    show froz E w w' none b = _
    unfold froz; rw [if_pos (fro_lt hH hb)]; exact hb
  have hle : E.le E2 := ⟨fun id e he => ⟨e, he, .inl rfl⟩, hfro⟩
  have hX : FrzE E' E2 (fun id => if id = 0 then none else h'.get id) (fun id => if id = 0 then some i else none) w' := by
    refine ⟨fun b c hb => ?_, fun id r hg hlp => ?_, fun id j e hr he => ?_⟩
    · show froz E w w' none b = _
      unfold froz
      by_cases hlt : b < w.heap.size
      · rw [if_pos hlt]
        have := hp.fr.fro b hlt
        rw [hb] at this; exact this.symm
      · rw [if_neg hlt, if_neg (by simp)]
        obtain ⟨t, z, hc'⟩ := hp.rep.fro b c hb
        rw [hc']
    · have hg : (if id = 0 then none else h'.get id) = some r := hg
      by_cases hid : id = 0
      · rw [if_pos hid] at hg; cases hg
      · rw [if_neg hid] at hg
        obtain ⟨e, he, hv, hri, _⟩ := hp.rep.rows id r hg
        obtain ⟨c, t, z, hc', _, _, _, hl'⟩ := (hri.cells hlp).ex
        refine ⟨e, c, t, z, he, hv, hc', ?_, hl'⟩
        show froz E w w' none e.blk = _
        unfold froz
        rw [if_neg (by have := hown id r e hid hg he; omega), if_neg (by simp), hc']
    · have hr : (if id = 0 then some i else none) = some j := hr
      by_cases hid : id = 0
      · rw [if_pos hid] at hr; cases hr
        subst hid
        rw [hen] at he; cases he
        exact he0
      · rw [if_neg hid] at hr; cases hr
  have hget : ∀ id, (h.put i ⟨0, cs', none⟩).get id = if id = i then some ⟨0, cs', none⟩ else h.get id := fun id => AH.get_put _ _ _ _
  refine ⟨u, E2, rfl, hz.rep hX hu, ⟨⟨fun id r hg => ?_, fun a b r s ea eb ha hb hea heb hx => ?_, fun b c hb => ?_⟩, ?_, by simp, fun id hid => hF id (by simpa using hid)⟩⟩
  · rw [hget] at hg
    by_cases hid : id = i
    · rw [if_pos hid] at hg; cases hg
      subst hid
      obtain ⟨c, t, z, h1, h2, h3, h4, h5⟩ := (hrn.cells rfl).ex
      have h6 := FrzX.rep hX hcs _ h5
      have hlen : cs'.length = cs1.length := by rw [h6.length, ← h5.length]
      refine ⟨_, he0, hv0, RowAt.is ⟨c, t, z, h1, h2, by rw [hlen]; exact h3, h4, by rw [hlen]; exact h6⟩ rfl, ?_⟩
      show froz E w w' none _ = _
      unfold froz
      rw [if_pos hlt0]; exact hf0
    · rw [if_neg hid] at hg
      obtain ⟨e, he, hv, hri, hf1⟩ := hH.rows id r hg
      have hne : e.blk ≠ _ := fun hx => hid (hH.inj id i r _ e _ hg hi he he0 hx)
      refine ⟨e, he, hv, (hri.block (hblock e.blk hri.lt hne)).mono hle, ?_⟩
      show froz E w w' none e.blk = _
      unfold froz; rw [if_pos hri.lt]; exact hf1
  · rw [hget] at ha hb
    have ha' : ∃ r', h.get a = some r' := by
      by_cases hid : a = i
      · subst hid; exact ⟨_, hi⟩
      · rw [if_neg hid] at ha; exact ⟨_, ha⟩
    have hb' : ∃ r', h.get b = some r' := by
      by_cases hid : b = i
      · subst hid; exact ⟨_, hi⟩
      · rw [if_neg hid] at hb; exact ⟨_, hb⟩
    obtain ⟨ra, ha'⟩ := ha'
    obtain ⟨rb, hb'⟩ := hb'
    exact hH.inj a b ra rb ea eb ha' hb' hea heb hx
  · have hb : froz E w w' none b = some c := hb
    unfold froz at hb
    by_cases hlt : b < w.heap.size
    · rw [if_pos hlt] at hb
      obtain ⟨t, z, h1⟩ := hH.fro b c hb
      have hne : b ≠ _ := fun hx => by rw [hx, hf0] at hb; cases hb
      exact ⟨t, z, by rw [hblock b hlt hne]; exact h1⟩
    · rw [if_neg hlt, if_neg (by simp)] at hb
      split at hb
      · rename_i c' t z hc'; cases hb; exact ⟨t, z, hc'⟩
      · cases hb
  · refine ⟨hle, fun b hb => (by show froz E w w' none b = _; unfold froz; rw [if_pos hb]), fun id h1 h2 => absurd h1 h2, fun id e h1 _ => h1, fun id h3 => ?_, fun id h3 h4 => ?_, hp.fr.os, hp.fr.tape, hp.fr.output, hp.fr.size, fun b hb hn => ?_, fun id r e h1 h2 => ?_⟩
    · rw [hget]; split
      · simp
      · exact h3
    · rw [hget] at h4
      by_cases hid : id = i
      · subst hid; rw [hi] at h3; cases h3
      · rw [if_neg hid] at h4; exact absurd h3 h4
    · exact hblock b hb fun hx => hn i _ _ hi he0 hx.symm
    · rw [hget] at h1
      by_cases hid : id = i
      · subst hid; exact .inr ⟨id, _, e, hi, h2, rfl⟩
      · rw [if_neg hid] at h1; exact .inr ⟨id, r, e, h1, h2, rfl⟩
end Go.Proofs.YtckcgijepiejlaaGreat.Ae
