/-
  WHAT WRITES, second part: writes into rows; append, copy, clear, store.
-/
import Derived.Test.YtckcgijepiejlaaGreatAeMem
namespace Go.Proofs.YtckcgijepiejlaaGreat.Ae
open Go
set_option linter.unusedVariables false
set_option linter.unusedSimpArgs false
set_option linter.unnecessarySimpa false
variable {P : Program} {E : Env} {w : World}

/-! ### cells written -/
theorem setCell_block {b o : Nat} {v : Value} {c : Array Value} {t : TypeId} {z : Nat × Nat} (h : w.heap[b]? = some (.cells c t z)) :
    (w.setCell ⟨b, o, none⟩ v).heap[b]? = some (.cells (c.setIfInBounds o v) t z) := by
  simp only [World.setCell, Array.getElem?_modify]
  rw [h]
  simp
theorem setCell_other {b o b' : Nat} {v : Value} (h : b' ≠ b) : (w.setCell ⟨b, o, none⟩ v).heap[b']? = w.heap[b']? := by
  simp only [World.setCell, Array.getElem?_modify]
  rw [if_neg (Ne.symm h)]
theorem setCells_block (b : Nat) : ∀ (vs : List Value) (o : Nat) (w : World) (c : Array Value) (t : TypeId) (z : Nat × Nat), w.heap[b]? = some (.cells c t z) → o + vs.length ≤ c.size →
    ∃ c', (w.setCells b o vs).heap[b]? = some (.cells c' t z) ∧ c'.size = c.size ∧ ∀ i : Nat, c'[i]? = if o ≤ i ∧ i < o + vs.length then vs[i - o]? else c[i]?
  | [], o, w, c, t, z, h, _ => ⟨c, h, rfl, fun i => by rw [if_neg (by simp)]⟩
  | v :: r, o, w, c, t, z, h, hle => by
    simp only [List.length_cons] at hle
    obtain ⟨c', h1, h2, h3⟩ := setCells_block b r (o + 1) _ _ t z (setCell_block (o := o) (v := v) h) (by simp; omega)
    refine ⟨c', h1, by simpa using h2, fun i => ?_⟩
    rw [h3, Array.getElem?_setIfInBounds]
    simp only [List.length_cons]
    by_cases hi : i = o
    · subst hi
      rw [if_neg (by omega), if_pos rfl, if_pos (by omega), if_pos (by omega)]
      simp
    · by_cases h4 : o + 1 ≤ i ∧ i < o + 1 + r.length
      · rw [if_pos h4, if_pos (by omega)]
        obtain ⟨k, hk⟩ : ∃ k, i - o = k + 1 := ⟨i - o - 1, by omega⟩
        rw [hk, List.getElem?_cons_succ]
        congr 1
        omega
      · rw [if_neg h4, if_neg (by omega), if_neg (by omega)]
theorem setCells_other (b : Nat) : ∀ (vs : List Value) (o : Nat) (w : World) (b' : Nat), b' ≠ b → (w.setCells b o vs).heap[b']? = w.heap[b']?
  | [], _, _, _, _ => rfl
  | v :: r, o, w, b', h => by
    rw [World.setCells, setCells_other b r _ _ _ h, setCell_other h]
theorem setCells_rest (b : Nat) : ∀ (vs : List Value) (o : Nat) (w : World), (w.setCells b o vs).os = w.os ∧ (w.setCells b o vs).tape = w.tape ∧ (w.setCells b o vs).output = w.output ∧ (w.setCells b o vs).heap.size = w.heap.size
  | [], _, _ => ⟨rfl, rfl, rfl, rfl⟩
  | v :: r, o, w => by
    rw [World.setCells]
    obtain ⟨h1, h2, h3, h4⟩ := setCells_rest b r (o + 1) (w.setCell ⟨b, o, none⟩ v)
    exact ⟨h1, h2, h3, by rw [h4]; simp [World.setCell]⟩

theorem frozen_row {b i : Nat} {c : Array Value} {t : TypeId} {z : Nat × Nat} (h : w.heap[b]? = some (.cells c t z)) (hz : z.1 = z.2 ∨ z = (c.size, c.size + 1)) (hi : i < c.size) : w.frozen? ⟨b, i, none⟩ = false := by
  simp only [World.frozen?, h]
  obtain ⟨lo, hi'⟩ := z
  rcases hz with hz | hz
  · simp only at hz
    subst hz
    simp <;> omega
  · cases hz
    simp <;> omega

/-- A ROW IS WRITTEN. -/
theorem RepH.keep {g : Nat → Option Row} (hH : RepH P E g w) {w' : World} {id : Nat} {N : Nat → Prop} {r r' : Row} {e : Ent} (hg : g id = some r) (he : E.ids id = some e) (hv : r'.ver = r.ver)
    (hrow : RowIs P E w' e r') (hos : w'.os = w.os) (htape : w'.tape = w.tape) (hout : w'.output = w.output) (hsize : w.heap.size ≤ w'.heap.size)
    (hsame : ∀ b, b ≠ e.blk → w'.heap[b]? = w.heap[b]?) : RepH P E (gset g id r') w' ∧ Fr N E g w E (gset g id r') w' := by
  obtain ⟨e1, he1, hev, _, hfro⟩ := hH.rows id r hg
  rw [he] at he1; cases he1
  have hfroB : ∀ b c, E.fro b = some c → b ≠ e.blk := by
    intro b c hb heq
    rw [heq, hfro] at hb; cases hb
  constructor
  · refine ⟨?_, ?_, ?_⟩
    · intro i ri hgi
      by_cases hi : i = id
      · subst hi
        simp only [gset, if_pos] at hgi
        cases hgi
        exact ⟨e, he, hev.trans hv.symm, hrow, hfro⟩
      · simp only [gset, if_neg hi] at hgi
        obtain ⟨ei, hei, hvi, hri, hfi⟩ := hH.rows i ri hgi
        refine ⟨ei, hei, hvi, hri.block (hsame _ fun heq => hi (hH.inj i id ri r ei e hgi hg hei he heq)), hfi⟩
    · intro i j ri rj ei ej hgi hgj hei hej hb
      have ex : ∀ i ri, gset g id r' i = some ri → ∃ s, g i = some s := by
        intro i ri h
        by_cases hi : i = id
        · subst hi; exact ⟨r, hg⟩
        · simp only [gset, if_neg hi] at h; exact ⟨ri, h⟩
      obtain ⟨si, hsi⟩ := ex i ri hgi
      obtain ⟨sj, hsj⟩ := ex j rj hgj
      exact hH.inj i j si sj ei ej hsi hsj hei hej hb
    · intro b c hb
      obtain ⟨t, z, hc⟩ := hH.fro b c hb
      exact ⟨t, z, by rw [hsame b (hfroB b c hb)]; exact hc⟩
  · refine ⟨Env.le.refl, fun _ _ => rfl, fun i hi hi' => absurd hi hi', fun i ei hi _ => hi, ?_, ?_, hos, htape, hout, hsize, ?_, ?_⟩
    · intro i hi
      by_cases h : i = id
      · simp [gset, h]
      · simpa [gset, h] using hi
    · intro i hi hi'
      by_cases h : i = id
      · subst h; rw [hg] at hi; cases hi
      · simp [gset, h, hi] at hi'
    · intro b hb hno
      exact hsame b fun heq => hno id r e hg he heq.symm
    · intro i ri ei hgi hei
      by_cases h : i = id
      · subst h; exact .inr ⟨_, r, ei, hg, hei, rfl⟩
      · simp only [gset, if_neg h] at hgi
        exact .inr ⟨_, ri, ei, hgi, hei, rfl⟩

theorem wrRow_some {h h' : AH} {id ver off : Nat} {ys : List AV} {o : Option Row} (hw : wrRow h id ver off ys o = some h') :
    ∃ r cs, o = some r ∧ r.ver = ver ∧ splice off ys r.cs = some cs ∧ r.lp = none ∧ h' = h.put id ⟨ver, cs, none⟩ := by
  unfold wrRow at hw
  split at hw
  · rename_i r
    cases hft : r.fits ver with
    | true =>
      rw [hft, cond_true] at hw
      unfold putO at hw
      split at hw
      · rename_i cs hs; cases hw; exact ⟨r, cs, rfl, (fits_true hft).1, hs, (fits_true hft).2, rfl⟩
      · cases hw
    | false => rw [hft, cond_false] at hw; cases hw
  · cases hw

/-- what a write comes to -/
theorem wrRow_sound {h h' : AH} (hH : RepH P E h.get w) {id ver off b o : Nat} {N : Nat → Prop} {ys : List AV} {us : List Value} (hw : wrRow h id ver off ys (h.get id) = some h') (hy : RepL E ys us) (h1 : allOne ys = true) {e : Ent}
    (he : E.ids id = some e) (hp : e.ver = ver → b = e.blk ∧ o = e.base + off) :
    ∃ w', (storeCells ⟨b, o, none⟩ us).run P w = .ok () w' ∧ RepH P E h'.get w' ∧ Fr N E h.get w E h'.get w' ∧ h'.next = h.next := by
  obtain ⟨r, cs, hg, rfl, hs, hlp, rfl⟩ := wrRow_some hw
  obtain ⟨e1, he1, hev, hri, hfro⟩ := hH.rows id r hg
  obtain ⟨c, t, z, hc, hcs, hle, hz, hl⟩ := (hri.cells hlp).ex
  rw [he] at he1; cases he1
  obtain ⟨rfl, rfl⟩ := hp hev
  obtain ⟨e2, e3⟩ := splice_eq hs
  have hyl := hy.length
  have hin : ∀ j, j < us.length → e.base + off + j < c.size := by intro j hj; omega
  have hrun := run_storeCells_cells (P := P) e.blk (e.base + off) us 0 w
    (fun j hj => by
      simp only [Nat.add_zero, World.cell?, hc]
      simp [hin j hj])
    (fun j hj => by simp only [Nat.add_zero]; exact frozen_row hc hz (hin j hj))
    (hy.ones h1)
  simp only [Nat.add_zero] at hrun
  obtain ⟨c', k1, k2, k3⟩ := setCells_block e.blk us (e.base + off) w c t z hc (by omega)
  obtain ⟨q1, q2, q3, q4⟩ := setCells_rest e.blk us (e.base + off) w
  have hrow : RowAt E (w.setCells e.blk (e.base + off) us) e cs := by
    refine ⟨c', t, z, k1, by omega, ?_, by rw [k2]; exact hz, ?_⟩
    · rw [e2]; simp; omega
    · have hlen : cs.length = r.cs.length := by rw [e2]; simp; omega
      have hsp := RepL.splice hl hy hs
      have : (c'.toList.drop e.base).take cs.length = ((c.toList.drop e.base).take r.cs.length).take off ++ us ++ ((c.toList.drop e.base).take r.cs.length).drop (off + us.length) := by
        apply List.ext_getElem?
        intro i
        rw [over_get _ _ _ (by rw [List.length_take, List.length_drop]; simp; omega)]
        rw [List.getElem?_take, hlen]
        by_cases hi : i < r.cs.length
        · rw [if_pos hi, List.getElem?_drop, Array.getElem?_toList, k3]
          by_cases h4 : off ≤ i ∧ i < off + us.length
          · rw [if_pos (by omega), if_pos h4]
            congr 1
            omega
          · rw [if_neg (by omega), if_neg h4, List.getElem?_take, if_pos hi, List.getElem?_drop, Array.getElem?_toList]
        · rw [if_neg hi, if_neg (by omega), List.getElem?_take, if_neg hi]
      rw [this]; exact hsp
  obtain ⟨r1, r2⟩ := hH.keep (N := N) (r' := ⟨r.ver, cs, none⟩) hg he rfl (RowAt.is hrow rfl) q1 q2 q3 (by omega) (fun b hb => setCells_other _ _ _ _ _ hb)
  rw [gset_put]
  exact ⟨_, hrun, r1, r2, by simp⟩

/-! ### store -/
theorem notRaw_of_one {x : AV} (h : allOne x.cells = true) : ∀ u, x = .raw u → u.oneCell' = true := by
  intro u hu; subst hu; simpa [AV.cells, allOne_cons, allOne_nil, AV.one] using h

theorem storeA_sound {h h' : AH} (hH : RepH P E h.get w) {t : TypeId} {x y : AV} {u v : Value} (hx : RepV E x u) (hy : RepV E y v) {N : Nat → Prop} (hs : storeA P h t x y = some h') :
    ∃ w', (Instr.storeAt t u v).run P w = .ok () w' ∧ RepH P E h'.get w' ∧ Fr N E h.get w E h'.get w' ∧ h'.next = h.next := by
  unfold storeA at hs
  split at hs
  · rename_i m hm
    by_cases hl : y.cells.length = m
    · rw [hl, nbeq, decide_eq_true rfl, cond_true] at hs
      unfold wrCells at hs
      split at hs
      · rename_i id ver off
        cases h1 : allOne y.cells with
        | false => rw [h1, cond_false] at hs; cases hs
        | true =>
          rw [h1, cond_true] at hs
          have hc := hy.cells (notRaw_of_one h1)
          simp only [RepV] at hx
          obtain ⟨b, o, rfl, e, he, hv, hp⟩ := hx
          obtain ⟨w', r1, r2, r3, r4⟩ := wrRow_sound (P := P) (N := N) (b := b) (o := o) hH hs hc h1 he hp
          refine ⟨w', ?_, r2, r3, r4⟩
          have hsz : v.cells.size = m := by rw [← hl, hc.length]; simp
          simp [Instr.storeAt, Instr.sureAddr, storeVar, run_sz hm, hsz, r1]
      · cases hs
    · rw [nbeq_false hl, cond_false] at hs; cases hs
  · cases hs

/-! ### the elements that are read -/
theorem lenA_sound {x : AV} {v : Value} (hx : RepV E x v) {n : Nat} (h : lenA x = some n) : (Builtin.lenOf v).run P w = .ok n w := by
  cases x <;> simp only [lenA] at h <;> try cases h
  case nils => simp only [RepV] at hx; subst hx; rfl
  case sl => simp only [RepV] at hx; obtain ⟨b, o, c, rfl, _⟩ := hx; rfl
  case fsl => simp only [RepV] at hx; obtain ⟨b, o, c, d, rfl, _⟩ := hx; rfl
  case str => simp only [RepV] at hx; subst hx; simp [Builtin.lenOf, bytes_size]

theorem firstA_all {h : AH} (hH : RepH P E h.get w) {n sz : Nat} {x : AV} {v : Value} (hx : RepV E x v) {ys : List AV} (hf : firstA h n sz x = some ys) (hn : ∀ m, lenA x = some m → n ≤ m) :
    ∃ us : Array Value, (∀ w' : World, w'.heap = w.heap → (Builtin.firstCells sz n v).run P w' = .ok us w') ∧ RepL E ys us.toList ∧ ys.length = n * sz := by
  have cellEq : ∀ (w' : World) (a : Addr), w'.heap = w.heap → w'.cell? a = w.cell? a := fun w' a hw => by simp only [World.cell?, hw]
  cases x <;> simp only [firstA] at hf <;> try cases hf
  case nils =>
    simp only [RepV] at hx; subst hx
    by_cases h0 : n = 0
    · subst h0
      rw [show Nat.beq 0 0 = true from rfl, cond_true] at hf
      cases hf
      exact ⟨#[], fun _ _ => rfl, RepL.nil, by simp⟩
    · rw [nbeq_false h0, cond_false] at hf; cases hf
  case sl id ver off s len cap =>
    by_cases hs : s = sz
    · subst hs
      rw [nbeq, decide_eq_true rfl, cond_true] at hf
      simp only [RepV] at hx
      obtain ⟨b, o, capc, rfl, hlen, hcap, e, he, hv, hp⟩ := hx
      have hnl := hn len rfl
      by_cases h0 : n = 0
      · subst h0
        rw [Nat.zero_mul] at hf
        have : ys = [] := by
          cases hg : h.get id with
          | none => rw [hg] at hf; cases hf
          | some r =>
            rw [hg] at hf
            simp only [rdRow] at hf
            cases hft : r.fits ver with
            | true => rw [hft, cond_true] at hf; exact List.eq_nil_of_length_eq_zero (takeN_eq hf).2
            | false => rw [hft, cond_false] at hf; cases hf
        subst this
        refine ⟨#[], fun w' _ => ?_, RepL.nil, by simp⟩
        simp [Builtin.firstCells, loadCells, loadCellsFrom]
      · obtain ⟨vs, r1, r2, r3, r4⟩ := rdRow_sound (b := b) (o := o) hH hf he (fun hx => by
          obtain ⟨p1, p2, p3⟩ := hp hx
          refine ⟨p1, ?_⟩
          rcases p2 with p2 | p2 <;> omega)
        refine ⟨vs.toArray, fun w' hw' => ?_, by simpa using r1, r3⟩
        simp only [Builtin.firstCells]
        have := run_loadCells_list (P := P) w' ⟨b, o, none⟩ vs (fun j v hj => by rw [Addr.add_mid, cellEq w' _ hw']; exact r2 j v hj)
        rw [r4] at this
        exact this
    · rw [nbeq_false hs, cond_false] at hf; cases hf
  case fsl cs s len cap =>
    by_cases hs : s = sz
    · subst hs
      rw [nbeq, decide_eq_true rfl, cond_true] at hf
      simp only [RepV] at hx
      obtain ⟨b, o, c, capc, rfl, hlen, hcap, hcs, hc, hl⟩ := hx
      obtain ⟨vs, r1, r2, r3, r4⟩ := fro_sound hH hc hl hf
      refine ⟨vs.toArray, fun w' hw' => ?_, by simpa using r1, r3⟩
      simp only [Builtin.firstCells]
      have := run_loadCells_list (P := P) w' ⟨b, o, none⟩ vs (fun j v hj => by rw [Addr.add_mid, cellEq w' _ hw']; exact r2 j v hj)
      rw [r4] at this
      exact this
    · rw [nbeq_false hs, cond_false] at hf; cases hf
  case str s =>
    by_cases hs : sz = 1
    · subst hs
      rw [show Nat.beq 1 1 = true from rfl, cond_true] at hf
      obtain ⟨rfl, h2⟩ := bytesN_some hf
      simp only [RepV] at hx; subst hx
      refine ⟨_, fun _ _ => rfl, ?_, by simpa using h2⟩
      have : (((⟨s.toArray⟩ : ByteArray).extract 0 n).data.map fun b => Value.int .u8 b.toNat).toList = (s.take n).map fun b => Value.int .u8 b.toNat := by
        rw [bytes_extract]; simp
      rw [this]
      exact repL_bytes _
    · rw [nbeq_false hs, cond_false] at hf; cases hf

theorem firstA_sound {h : AH} (hH : RepH P E h.get w) {n sz : Nat} {x : AV} {v : Value} (hx : RepV E x v) {ys : List AV} (hf : firstA h n sz x = some ys) (hn : ∀ m, lenA x = some m → n ≤ m) :
    ∃ us : Array Value, (Builtin.firstCells sz n v).run P w = .ok us w ∧ RepL E ys us.toList ∧ ys.length = n * sz := by
  obtain ⟨us, h1, h2, h3⟩ := firstA_all (P := P) hH hx hf hn
  exact ⟨us, h1 w rfl, h2, h3⟩

/-! ### copy, clear -/
theorem copyD_sound {h h' : AH} (hH : RepH P E h.get w) {t : TypeId} {d x y : AV} {vd vx : Value} (hd : RepV E d vd) (hx : RepV E x vx) {N : Nat → Prop} (hc : copyD P h (P.underlying t) d x = some (y, h')) {ts : Array TypeId} {args : Array Value}
    (ht : ts[0]? = some t) (a0 : args[0]? = some vd) (a1 : args[1]? = some vx) (ty : TypeId) :
    ∃ u w', (Builtin.copy_ ts ty args).run P w = .ok u w' ∧ RepV E y u ∧ RepH P E h'.get w' ∧ Fr N E h.get w E h'.get w' ∧ h'.next = h.next := by
  unfold copyD at hc
  split at hc
  · rename_i e hu
    split at hc
    · rename_i sz hs
      split at hc
      · rename_i dl hdl
        split at hc
        · rename_i yl hyl
          simp only [forceN_eq] at hc
          split at hc
          · rename_i ys hys
            split at hc
            · rename_i h1 hto
              cases hc
              have hlx := lenA_sound (P := P) (w := w) hx hyl
              obtain ⟨us, r1, r2, r3⟩ := firstA_sound (P := P) hH hx hys (fun m hm => by rw [hyl] at hm; cases hm; exact Nat.min_le_left _ _)
              have hmin : Nat.min yl dl = min yl dl := rfl
              have fin : ∀ (base : Option Addr) (dc : Nat) (w' : World), vd = .slice base dl dc → (match base with | some a => storeCells a us.toList | none => pure ()).run P w = .ok () w' →
                  (Builtin.copy_ ts ty args).run P w = .ok (.int .i64 (min yl dl : Nat)) w' := by
                intro base dc w' hvd hst
                subst hvd
                unfold Builtin.copy_
                simp only [ht, a0, a1, Sem.run_bind, run_und hu, Result.andThen_ok, hlx, run_sz hs, hmin, r1]
                cases base with
                | none => simp at hst; simp [goInt, hst]
                | some a => simp only at hst; simp [goInt, hst]
              unfold copyTo at hto
              split at hto
              · cases hto
                simp only [RepV] at hd
                simp only [lenA, Option.some.injEq] at hdl
                subst hdl
                subst hd
                exact ⟨_, w, fin none 0 w rfl rfl, by simp only [RepV]; rfl, hH, Fr.refl _ _ _ _, rfl⟩
              · rename_i id ver off s0 len cap
                by_cases hcond : (Nat.beq s0 sz && allOne ys) = true
                · rw [hcond, cond_true] at hto
                  rw [Bool.and_eq_true] at hcond
                  have := nbeq_true hcond.1
                  subst this
                  simp only [RepV] at hd
                  simp only [lenA, Option.some.injEq] at hdl
                  subst hdl
                  obtain ⟨b, o, capc, rfl, hlen, hcap, e', he, hv, hp⟩ := hd
                  by_cases h0 : min yl len = 0
                  · have hys0 : ys = [] := List.eq_nil_of_length_eq_zero (by rw [r3, h0, Nat.zero_mul])
                    subst hys0
                    have hus := r2.nil_inv
                    obtain ⟨rr, cs, hg, hrv, hsp, hlp, rfl⟩ := wrRow_some hto
                    obtain ⟨e2, e3⟩ := splice_eq hsp
                    simp at e2
                    obtain ⟨e4, he4, hev, hrow, _⟩ := hH.rows id rr hg
                    obtain ⟨q1, q2⟩ := hH.keep (w' := w) (N := N) (r' := ⟨ver, cs, none⟩) hg he4 hrv.symm (RowAt.is (by rw [e2]; exact hrow.cells hlp) rfl) rfl rfl rfl (Nat.le_refl _) (fun _ _ => rfl)
                    rw [gset_put]
                    refine ⟨_, w, fin (some ⟨b, o, none⟩) capc w rfl (by rw [hus]; rfl), by simp only [RepV]; rfl, q1, q2, by simp⟩
                  · obtain ⟨w', q1, q2, q3, q4⟩ := wrRow_sound (P := P) (N := N) (b := b) (o := o) hH hto r2 hcond.2 he (fun hx => by
                      obtain ⟨p1, p2, p3⟩ := hp hx
                      refine ⟨p1, ?_⟩
                      rcases p2 with p2 | p2 <;> omega)
                    exact ⟨_, w', fin (some ⟨b, o, none⟩) capc w' rfl q1, by simp only [RepV]; rfl, q2, q3, q4⟩
                · rw [Bool.not_eq_true] at hcond
                  rw [hcond, cond_false] at hto; cases hto
              · rename_i cs sz' len cap
                by_cases h0 : min yl dl = 0
                · rw [h0, show Nat.beq 0 0 = true from rfl, cond_true] at hto
                  cases hto
                  simp only [RepV] at hd
                  simp only [lenA, Option.some.injEq] at hdl
                  subst hdl
                  obtain ⟨b, o, c, capc, rfl, _⟩ := hd
                  have hys0 : ys = [] := List.eq_nil_of_length_eq_zero (by rw [r3, h0, Nat.zero_mul])
                  subst hys0
                  have hus := r2.nil_inv
                  exact ⟨_, w, fin (some ⟨b, o, none⟩) capc w rfl (by rw [hus]; rfl), by simp only [RepV]; rfl, hH, Fr.refl _ _ _ _, rfl⟩
                · rw [nbeq_false h0, cond_false] at hto; cases hto
              · cases hto
            · cases hc
          · cases hc
        · cases hc
      · cases hc
    · cases hc
  · cases hc

end Go.Proofs.YtckcgijepiejlaaGreat.Ae
