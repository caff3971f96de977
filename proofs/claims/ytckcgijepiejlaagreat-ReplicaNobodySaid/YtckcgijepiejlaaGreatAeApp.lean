/-
  APPEND, clear: what the evaluator makes of them is what the machine makes, whatever room the tape gives.
-/
import Derived.Test.YtckcgijepiejlaaGreatAeAct
namespace Go.Proofs.YtckcgijepiejlaaGreat.Ae
open Go
set_option linter.unusedVariables false
set_option linter.unusedSimpArgs false
set_option linter.unnecessarySimpa false
variable {P : Program} {E : Env} {w : World}

theorem RowAt.heap {e : Ent} {r : Row} {w' : World} (h : RowIs P E w e r) (hb : w'.heap = w.heap) : RowIs P E w' e r := h.block (by rw [hb])
theorem RepH.heap {g : Nat → Option Row} (hH : RepH P E g w) {w' : World} (hb : w'.heap = w.heap) : RepH P E g w' := by
  refine ⟨fun id r hg => ?_, hH.inj, fun b c hc => ?_⟩
  · obtain ⟨e, he, hv, hr, hf⟩ := hH.rows id r hg
    exact ⟨e, he, hv, RowAt.heap hr hb, hf⟩
  · obtain ⟨t, z, hh⟩ := hH.fro b c hc
    exact ⟨t, z, by rw [hb]; exact hh⟩

/-! ### how far a slice grows -/
theorem growBy_le (n : Nat) : ∀ (r c : Nat), c ≤ n + (n + 768) / 4 → Builtin.growBy n r c ≤ n + (n + 768) / 4
  | 0, c, h => h
  | r + 1, c, h => by
    unfold Builtin.growBy
    split
    · exact h
    · exact growBy_le n r _ (by omega)
theorem nextslicecap_le {need cap bytes : Nat} (h : cap < need) (hb : need * (bytes + 1) ≤ 70368744177664) : Builtin.nextslicecap need cap * bytes ≤ 2 ^ 48 := by
  have hnb : need * bytes ≤ 70368744177664 := Nat.le_trans (Nat.mul_le_mul_left _ (by omega)) hb
  unfold Builtin.nextslicecap
  split
  · omega
  · split
    · have : 2 * cap * bytes ≤ 2 * need * bytes := Nat.mul_le_mul_right _ (by omega)
      rw [Nat.mul_assoc] at this ⊢
      rw [Nat.mul_assoc] at this
      omega
    · have h1 := growBy_le need 4 cap (by omega)
      have h2 : Builtin.growBy need 4 cap ≤ 3 * need := by omega
      have : Builtin.growBy need 4 cap * bytes ≤ 3 * need * bytes := Nat.mul_le_mul_right _ h2
      rw [Nat.mul_assoc 3] at this
      omega

/-- what append asks of its types and arguments -/
structure AppArgs (P : Program) (ts : Array TypeId) (args : Array Value) (e : TypeId) (i : TypeInfo) (zv : Value) (base : Option Addr) (l cap : Nat) (vx : Value) : Prop where
  t : ∃ t, ts[0]? = some t ∧ P.underlying t = some (.slice e)
  u : ∃ u d, ts[1]? = some u ∧ P.underlying u = some d ∧ ∀ k, d ≠ .int k
  hi : P.info? e = some i
  z : ∀ w, (zeroValue e).run P w = .ok zv w
  zs : zv.cells.size = i.size
  a0 : args[0]? = some (.slice base l cap)
  a1 : args[1]? = some vx

theorem run_append_in {ts : Array TypeId} {args : Array Value} {e : TypeId} {i : TypeInfo} {zv : Value} {base : Option Addr} {l cap : Nat} {vx : Value} (A : AppArgs P ts args e i zv base l cap vx) {n : Nat} (hn : (Builtin.lenOf vx).run P w = .ok n w)
    (hle : l + n ≤ cap) {us : Array Value} (hus : (Builtin.firstCells i.size n vx).run P w = .ok us w) {w' : World} (hst : (match base with | some a => storeCells (a.add (l * i.size)) us.toList | none => pure ()).run P w = .ok () w') (ty : TypeId) :
    (Builtin.append_ ts ty args).run P w = .ok (.slice base (l + n) cap) w' := by
  obtain ⟨t, ht, hu⟩ := A.t
  obtain ⟨u, d, hu1, hd, hni⟩ := A.u
  have hs : szOf P e = some i.size := by simp [szOf, A.hi]
  cases d <;> first
    | exact absurd rfl (hni _)
    | (unfold Builtin.append_
       simp only [ht, A.a0, A.a1, hu1, Sem.run_bind, run_und hu, run_und hd, Result.andThen_ok, run_sz hs, Sem.run_pure, Bool.false_eq_true, if_false, hn, Bool.not_false, if_true, if_pos hle]
       cases base with
       | none => (simp only [Sem.run_pure, Result.ok.injEq, true_and] at hst; subst hst; simp [hus])
       | some a => (simp only at hst; simp [hus, hst]))

theorem run_append_new {ts : Array TypeId} {args : Array Value} {e : TypeId} {i : TypeInfo} {zv : Value} {base : Option Addr} {l cap : Nat} {vx : Value} (A : AppArgs P ts args e i zv base l cap vx) {n : Nat} (hn : (Builtin.lenOf vx).run P w = .ok n w)
    (hle : ¬ l + n ≤ cap) (hb : (l + n) * (i.bytes + 1) ≤ 70368744177664) {old us : Array Value} (hold : ∀ d, (Builtin.firstCells i.size l (.slice base l cap)).run P { w with drawn := d } = .ok old { w with drawn := d })
    (hus : ∀ d, (Builtin.firstCells i.size n vx).run P { w with drawn := d } = .ok us { w with drawn := d }) (ty : TypeId) :
    ∃ c, l + n ≤ c ∧ (Builtin.append_ ts ty args).run P w = .ok (.slice (some ⟨w.heap.size, 0, none⟩) (l + n) c) { w with drawn := w.drawn + 1, heap := w.heap.push (.cells (old ++ us ++ Builtin.zeroCells zv.cells (c - (l + n))) e (0, 0)) } := by
  obtain ⟨t, ht, hu⟩ := A.t
  obtain ⟨u, d, hu1, hd, hni⟩ := A.u
  have hq : (Question.appendCap (l + n) cap e).forced = false := rfl
  refine ⟨(Question.appendCap (l + n) cap e).cut (w.tape w.drawn (.appendCap (l + n) cap e)), by simp [Question.cut], ?_⟩
  have hneed : l + n ≤ 70368744177664 := Nat.le_trans (Nat.le_mul_of_pos_right _ (by omega)) hb
  have hmax : ¬ (((l + n : Nat) : Int) > IntKind.i64.max ∧ (false = true ∨ i.bytes = 0)) := by
    rintro ⟨h, _⟩
    have : IntKind.max .i64 = 9223372036854775807 := by decide
    rw [this] at h; omega
  have hcap : ¬ (Builtin.nextslicecap (l + n) cap * i.bytes > 2 ^ 48) := by
    have := nextslicecap_le (cap := cap) (by omega) hb
    omega
  have hs : szOf P e = some i.size := by simp [szOf, A.hi]
  cases d <;> first
    | exact absurd rfl (hni _)
    | (unfold Builtin.append_
       simp only [ht, A.a0, A.a1, hu1, Sem.run_bind, run_und hu, run_und hd, Result.andThen_ok, run_sz hs, Sem.run_pure, Bool.false_eq_true, if_false, hn, Bool.not_false, if_true, if_neg hle, run_info A.hi]
       rw [if_neg (by simpa using hmax)]
       simp only [Sem.run_bind, run_info A.hi, Result.andThen_ok]
       rw [if_neg hcap]
       simp only [Sem.run_bind, run_choose, hq, Bool.false_eq_true, if_false, Result.andThen_ok, run_info A.hi, run_askRoom, hold, hus, A.z, newRow_run, Sem.run_pure])

theorem zeroCells_size (z : Array Value) (n : Nat) : (Builtin.zeroCells z n).size = n * z.size := by simp [Builtin.zeroCells]

/-- A NEW ROW BEHIND AN APPEND. -/
theorem app_new {h : AH} (hH : RepH P E h.get w) {id : Nat} {N : Nat → Prop} (hid : E.ids id = none) (hn : N id) {sz need c : Nat} (hc : need ≤ c) {cs : List AV} {old us z : Array Value} (hl : RepL E cs (old ++ us).toList) (hlen : cs.length = need * sz) (hz : z.size = (c - need) * sz) (e : TypeId) :
    let w' : World := { w with drawn := w.drawn + 1, heap := w.heap.push (.cells (old ++ us ++ z) e (0, 0)) }
    ∃ E', RepV E' (.sl id 0 0 sz need none) (.slice (some ⟨w.heap.size, 0, none⟩) need c) ∧ RepH P E' (h.put id ⟨0, cs, none⟩).get w' ∧ Fr N E h.get w E' (h.put id ⟨0, cs, none⟩).get w' := by
  intro w'
  have hls : cs.length = (old ++ us).size := by rw [hl.length]; simp
  have htot : (old ++ us ++ z).size = c * sz := by
    rw [Array.size_append, ← hls, hlen, hz, ← Nat.add_mul]; congr 1; omega
  obtain ⟨h1, h2⟩ := hH.push (w' := w') hid hn (c := old ++ us ++ z) (t := e) (z := (0, 0)) (cs := cs) (.inl rfl) (by
    have : (old ++ us ++ z).toList.take cs.length = (old ++ us).toList := by
      rw [Array.toList_append, hls]
      exact List.take_left' (by simp)
    rw [this]; exact hl) (by rw [Array.size_append]; omega) rfl rfl rfl rfl
  rw [gset_put]
  refine ⟨_, ?_, h1, h2⟩
  simp only [RepV]
  exact ⟨_, _, _, rfl, hc, (fun c hc => by cases hc), ⟨0, w.heap.size, 0, (old ++ us ++ z).size⟩, by simp [Env.set], by simp, fun _ => ⟨rfl, .inl rfl, fun _ => by simp only [htot]; omega⟩⟩

/-- A ROW GROWS, in its own block or in a new one: it comes to its next version. -/
theorem app_old {h : AH} (hH : RepH P E h.get w) {sid off len m sz capc b o : Nat} {N : Nat → Prop} {rr : Row} {e0 : Ent} (hg : h.get sid = some rr) (he0 : E.ids sid = some e0) (hev : e0.ver = rr.ver) (hlp : rr.lp = none) (hsz : 0 < sz)
    (p1 : b = e0.blk) (p2 : o = e0.base + off ∨ capc = 0) (p3 : e0.base + off + capc * sz = e0.bsz) (hle : len ≤ capc) {xs ys : List AV} {us : Array Value} (hxs : takeN (len * sz) (dropN off rr.cs) = some xs)
    (f2 : RepL E ys us.toList) (f3 : ys.length = m * sz) (h1 : allOne ys = true) {run : World → Prop} {r : Value} (s : Sem Value)
    (hin : len + m ≤ capc → ∀ w', (storeCells (⟨b, o + len * sz, none⟩ : Addr) us.toList).run P w = .ok () w' → s.run P w = .ok (.slice (some ⟨b, o, none⟩) (len + m) capc) w')
    (hnew : ¬ len + m ≤ capc → ∀ old : Array Value, (∀ w' : World, w'.heap = w.heap → (Builtin.firstCells sz len (.slice (some ⟨b, o, none⟩) len capc)).run P w' = .ok old w') → ∃ c e z, len + m ≤ c ∧ z.size = (c - (len + m)) * sz ∧
      s.run P w = .ok (.slice (some ⟨w.heap.size, 0, none⟩) (len + m) c) { w with drawn := w.drawn + 1, heap := w.heap.push (.cells (old ++ us ++ z) e (0, 0)) }) :
    ∃ r w' E', s.run P w = .ok r w' ∧ RepV E' (.sl sid (rr.ver + 1) 0 sz (len + m) none) r ∧ RepH P E' (h.put sid ⟨rr.ver + 1, xs ++ ys, none⟩).get w' ∧ Fr N E h.get w E' (h.put sid ⟨rr.ver + 1, xs ++ ys, none⟩).get w' := by
  obtain ⟨e1, he1, _, hrow, hfro⟩ := hH.rows sid rr hg
  rw [he0] at he1; cases he1
  obtain ⟨c, tt, z, hcb, hcs, hle3, hz, hll⟩ := (hrow.cells hlp).ex
  rw [dropN_eq] at hxs
  obtain ⟨ex, exl⟩ := takeN_eq hxs
  have hxl : len * sz ≤ rr.cs.length - off := by
    have : xs.length ≤ (rr.cs.drop off).length := by rw [ex]; exact List.length_take_le' _ _
    rw [List.length_drop] at this; omega
  have hX : RepL E xs ((c.toList.drop (e0.base + off)).take (len * sz)) := by
    have := RepL.take (len * sz) (RepL.drop off hll)
    rw [← ex, List.drop_take, List.take_take, List.drop_drop, Nat.min_eq_left hxl] at this
    exact this
  have hver : ∀ {k : Ent}, k.ver = rr.ver + 1 → ∀ e, E.ids sid = some e → e.ver < k.ver := by
    intro k hk e he
    rw [he0] at he; cases he; omega
  by_cases hroom : len + m ≤ capc
  · -- in its own block
    have hmul : (len + m) * sz ≤ capc * sz := Nat.mul_le_mul_right _ hroom
    have husl : us.toList.length = m * sz := by rw [← f2.length, f3]
    have hadd : (len + m) * sz = len * sz + m * sz := Nat.add_mul _ _ _
    let w' := w.setCells e0.blk (e0.base + off + len * sz) us.toList
    obtain ⟨c', k1, k2, k3⟩ := setCells_block e0.blk us.toList (e0.base + off + len * sz) w c tt z hcb (by omega)
    obtain ⟨q1, q2, q3, q4⟩ := setCells_rest e0.blk us.toList (e0.base + off + len * sz) w
    have hst : (storeCells (⟨b, o + len * sz, none⟩ : Addr) us.toList).run P w = .ok () w' := by
      by_cases h0 : m = 0
      · have hus : us.toList = [] := List.eq_nil_of_length_eq_zero (by rw [husl, h0, Nat.zero_mul])
        simp only [w', hus]
        rfl
      · have ho : o = e0.base + off := by
          rcases p2 with p2 | p2
          · exact p2
          · omega
        subst ho
        subst p1
        have hin' : ∀ j, j < us.toList.length → e0.base + off + len * sz + j < c.size := by intro j hj; omega
        have hrun := run_storeCells_cells (P := P) e0.blk (e0.base + off + len * sz) us.toList 0 w
          (fun j hj => by
            simp only [Nat.add_zero, World.cell?, hcb]
            simp [hin' j hj])
          (fun j hj => by simp only [Nat.add_zero]; exact frozen_row hcb hz (hin' j hj))
          (f2.ones h1)
        simpa only [Nat.add_zero] using hrun
    have hrow' : RowAt (E.set sid ⟨rr.ver + 1, e0.blk, e0.base + off, e0.bsz⟩) w' ⟨rr.ver + 1, e0.blk, e0.base + off, e0.bsz⟩ (xs ++ ys) := by
      refine ⟨c', tt, z, k1, by simp only [k2, hcs], ?_, by rw [k2]; exact hz, ?_⟩
      · simp only [List.length_append, exl, f3]; omega
      · have hXY := (hX.append f2).mono (Env.le_set (E := E) (id := sid) (e := ⟨rr.ver + 1, e0.blk, e0.base + off, e0.bsz⟩) (hver rfl))
        have : (c'.toList.drop (e0.base + off)).take (xs ++ ys).length = (c.toList.drop (e0.base + off)).take (len * sz) ++ us.toList := by
          apply List.ext_getElem?
          intro i
          have hl1 : ((c.toList.drop (e0.base + off)).take (len * sz)).length = len * sz := by rw [← hX.length, exl]
          rw [List.getElem?_take]
          simp only [List.length_append, exl, f3]
          by_cases hi : i < len * sz + m * sz
          · rw [if_pos hi, List.getElem?_drop, Array.getElem?_toList, k3]
            by_cases h4 : i < len * sz
            · rw [if_neg (by omega), List.getElem?_append_left (by omega), List.getElem?_take, if_pos h4, List.getElem?_drop, Array.getElem?_toList]
            · rw [if_pos (by omega), List.getElem?_append_right (by omega), hl1]
              congr 1
              omega
          · rw [if_neg hi, List.getElem?_eq_none (by rw [List.length_append, hl1]; omega)]
        rw [this]; exact hXY
    obtain ⟨r1, r2⟩ := hH.set (w' := w') (N := N) (r := ⟨rr.ver + 1, xs ++ ys, none⟩) (e := ⟨rr.ver + 1, e0.blk, e0.base + off, e0.bsz⟩) (hver rfl) rfl (RowAt.is hrow' rfl) (.inr ⟨rr, e0, hg, he0, rfl⟩) (fun hx => by rw [he0] at hx; cases hx)
      (fun _ hx => by rw [hg] at hx; cases hx) q1 q2 q3 (by rw [q4]; exact Nat.le_refl _) (fun b hb hbe => setCells_other _ _ _ _ _ hbe)
    rw [gset_put]
    refine ⟨_, w', _, hin hroom w' hst, ?_, r1, r2⟩
    simp only [RepV]
    refine ⟨b, o, capc, rfl, hroom, (fun c hc => by cases hc), ⟨rr.ver + 1, e0.blk, e0.base + off, e0.bsz⟩, by simp [Env.set], Nat.le_refl _, fun _ => ⟨p1, ?_, fun _ => by simp only; omega⟩⟩
    rcases p2 with p2 | p2
    · exact .inl (by simpa using p2)
    · exact .inr p2
  · -- in a new block
    have hs' : RepV E (.sl sid rr.ver off sz len none) (.slice (some ⟨b, o, none⟩) len capc) := by
      simp only [RepV]
      exact ⟨b, o, capc, rfl, hle, (fun c hc => by cases hc), e0, he0, by omega, fun _ => ⟨p1, p2, fun _ => p3⟩⟩
    obtain ⟨old, o1, o2, o3⟩ := firstA_all (P := P) (h := h) (n := len) (sz := sz) hH hs' (ys := xs) (by
      simp only [firstA, hg, rdRow, dropN_eq]
      have hfit : rr.fits rr.ver = true := by simp [Row.fits, hlp]
      rw [nbeq, decide_eq_true rfl, cond_true, hfit, cond_true]
      exact hxs) (fun k hk => by simp only [lenA] at hk; cases hk; exact Nat.le_refl _)
    obtain ⟨c1, e, z1, hc1, hz1, hrun⟩ := hnew hroom old o1
    have hl2 : RepL E (xs ++ ys) (old ++ us).toList := by simpa using o2.append f2
    have hls : (xs ++ ys).length = (old ++ us).size := by rw [hl2.length]; simp
    have hlen : (xs ++ ys).length = (len + m) * sz := by rw [List.length_append, exl, f3, Nat.add_mul]
    have htot : (old ++ us ++ z1).size = c1 * sz := by
      rw [Array.size_append, ← hls, hlen, hz1, ← Nat.add_mul]; congr 1; omega
    let w' : World := { w with drawn := w.drawn + 1, heap := w.heap.push (.cells (old ++ us ++ z1) e (0, 0)) }
    have hrow' : RowAt (E.set sid ⟨rr.ver + 1, w.heap.size, 0, c1 * sz⟩) w' ⟨rr.ver + 1, w.heap.size, 0, c1 * sz⟩ (xs ++ ys) := by
      refine ⟨old ++ us ++ z1, e, (0, 0), by simp [w'], htot, ?_, .inl rfl, ?_⟩
      · simp only [Nat.zero_add]
        rw [hlen]
        exact Nat.mul_le_mul_right _ hc1
      · have hXY := hl2.mono (Env.le_set (E := E) (id := sid) (e := ⟨rr.ver + 1, w.heap.size, 0, c1 * sz⟩) (hver rfl))
        have : ((old ++ us ++ z1).toList.drop 0).take (xs ++ ys).length = (old ++ us).toList := by
          rw [List.drop_zero, Array.toList_append, hls]
          exact List.take_left' (by simp)
        simp only
        rw [this]; exact hXY
    obtain ⟨r1, r2⟩ := hH.set (w' := w') (N := N) (r := ⟨rr.ver + 1, xs ++ ys, none⟩) (e := ⟨rr.ver + 1, w.heap.size, 0, c1 * sz⟩) (hver rfl) rfl (RowAt.is hrow' rfl) (.inl (Nat.le_refl _)) (fun hx => by rw [he0] at hx; cases hx)
      (fun _ hx => by rw [hg] at hx; cases hx) rfl rfl rfl (by simp [w']) (fun b hb hbe => by
        simp only [w']
        rw [Array.getElem?_push, if_neg (by simp only at hbe; omega)])
    rw [gset_put]
    refine ⟨_, w', _, hrun, ?_, r1, r2⟩
    simp only [RepV]
    exact ⟨_, _, c1, rfl, hc1, (fun c hc => by cases hc), ⟨rr.ver + 1, w.heap.size, 0, c1 * sz⟩, by simp [Env.set], Nat.le_refl _, fun _ => ⟨rfl, .inl rfl, fun _ => by simp only; omega⟩⟩

theorem appD_sound {h h' : AH} (hH : RepH P E h.get w) {t u : TypeId} {s x y : AV} {vs vx : Value} (hs : RepV E s vs) (hx : RepV E x vx) {id : Nat} {N : Nat → Prop} (hid : E.ids id = none) (hn : N id) (hc : appD P h id (P.underlying t) s x = some (y, h'))
    {ts : Array TypeId} {args : Array Value} (ht : ts[0]? = some t) (ht1 : ts[1]? = some u) (hni : notInt (P.underlying u) = true) (a0 : args[0]? = some vs) (a1 : args[1]? = some vx) (ty : TypeId) :
    ∃ r w' E', (Builtin.append_ ts ty args).run P w = .ok r w' ∧ RepV E' y r ∧ RepH P E' h'.get w' ∧ Fr N E h.get w E' h'.get w' ∧ h'.next = h.next := by
  unfold appD at hc
  split at hc
  · rename_i e hu
    split at hc
    · rename_i i hi
      unfold appZ at hc
      split at hc
      · rename_i z hz
        obtain ⟨i', zv, hi', hzv, rfl⟩ := zeroA_some hz
        rw [hi] at hi'; cases hi'
        by_cases hzl : (toAV zv).cells.length = i.size
        · rw [hzl, nbeq, decide_eq_true rfl, cond_true] at hc
          obtain ⟨m, hm, hc1⟩ := bind_some hc
          obtain ⟨l, hl, hc2⟩ := bind_some hc1
          clear hc hc1
          have hc := hc2
          clear hc2
          unfold appN at hc
          by_cases hcond : (Nat.ble ((l + m) * (i.bytes + 1)) 70368744177664 && !Nat.beq i.size 0) = true
          · rw [hcond, cond_true] at hc
            simp only [Bool.and_eq_true, nble, decide_eq_true_eq, Bool.not_eq_true', nbeq, decide_eq_false_iff_not] at hcond
            obtain ⟨hb, hsz⟩ := hcond
            have hsz : 0 < i.size := Nat.pos_of_ne_zero hsz
            split at hc
            · rename_i ys hys
              cases h1 : allOne ys with
              | false => rw [h1, cond_false] at hc; cases hc
              | true =>
                rw [h1, cond_true] at hc
                have hlm := lenA_sound (P := P) (w := w) hx hm
                obtain ⟨us, f0, f2, f3⟩ := firstA_all (P := P) hH hx hys (fun k hk => by rw [hm] at hk; cases hk; exact Nat.le_refl _)
                have hd : ∃ d, P.underlying u = some d ∧ ∀ k, d ≠ .int k := by
                  cases hd : P.underlying u with
                  | none => rw [hd] at hni; cases hni
                  | some d => cases d <;> rw [hd] at hni <;> first | (cases hni; done) | exact ⟨_, rfl, fun k hk => by cases hk⟩
                obtain ⟨d, hd, hdi⟩ := hd
                have mk : ∀ base cap, vs = .slice base l cap → AppArgs P ts args e i zv base l cap vx := fun base cap hv =>
                  ⟨⟨t, ht, hu⟩, ⟨u, d, ht1, hd, hdi⟩, hi, fun w => by simp [zeroValue, run_info hi, hzv], by
                    rw [← hzl, (repL_toAV_cells E zv).length]; simp, by rw [a0, hv], a1⟩
                have hlen : ∀ k base cap, vs = .slice base k cap → k = l := by
                  intro k base cap hv
                  have := lenA_sound (P := P) (w := w) hs hl
                  rw [hv] at this
                  simp [Builtin.lenOf] at this
                  exact this
                have f1 := f0 w rfl
                have fus : ∀ d, (Builtin.firstCells i.size m vx).run P { w with drawn := d } = .ok us { w with drawn := d } := fun d => f0 _ rfl
                have us0 : m = 0 → us = #[] := by
                  intro h0
                  subst h0
                  have : us.size = 0 := by
                    have := f2.length
                    rw [f3] at this
                    simpa using this.symm
                  exact Array.eq_empty_of_size_eq_zero this
                have grow : ∀ {base cap} {xs : List AV} {old : Array Value} {cs : List AV}, vs = .slice base l cap → ¬ l + m ≤ cap → (∀ d, (Builtin.firstCells i.size l vs).run P { w with drawn := d } = .ok old { w with drawn := d }) → RepL E xs old.toList → xs.length = l * i.size → cs = xs ++ ys →
                    ∃ r w' E', (Builtin.append_ ts ty args).run P w = .ok r w' ∧ RepV E' (.sl id 0 0 i.size (l + m) none) r ∧ RepH P E' (h.put id ⟨0, cs, none⟩).get w' ∧ Fr N E h.get w E' (h.put id ⟨0, cs, none⟩).get w' := by
                  intro base cap xs old cs hv hgt hold hxs hxl hcs
                  subst hcs
                  obtain ⟨c, hc, hrun⟩ := run_append_new (mk base cap hv) hlm hgt hb (by rw [← hv]; exact hold) fus ty
                  obtain ⟨E', q1, q2, q3⟩ := app_new (need := l + m) (sz := i.size) hH hid hn hc (cs := xs ++ ys) (old := old) (us := us) (z := Builtin.zeroCells zv.cells (c - (l + m))) (by simpa using hxs.append f2)
                    (by rw [List.length_append, hxl, f3, Nat.add_mul]) (by rw [zeroCells_size, (mk base cap hv).zs]) e
                  exact ⟨_, _, E', hrun, q1, q2, q3⟩
                cases s <;> simp only [appSl] at hc <;> try cases hc
                case nils =>
                  simp only [RepV] at hs
                  have hl0 := hlen 0 none 0 hs
                  subst hl0
                  by_cases h0 : m = 0
                  · subst h0
                    rw [show Nat.beq 0 0 = true from rfl, cond_true] at hc
                    cases hc
                    refine ⟨_, w, E, run_append_in (mk none 0 hs) hlm (Nat.le_refl _) f1 (by simp) ty, by simp only [RepV], hH, Fr.refl _ _ _ _, rfl⟩
                  · rw [nbeq_false h0, cond_false] at hc
                    unfold growNew at hc
                    simp only [forceCs_eq, forceN_eq, appL_eq] at hc
                    cases hc
                    obtain ⟨r, w', E', q1, q2, q3, q4⟩ := grow (xs := []) (old := #[]) hs (by omega) (fun d => by rw [hs]; rfl) RepL.nil (by simp) (by simp : ys = [] ++ ys)
                    rw [Nat.zero_add] at q2
                    exact ⟨r, w', E', q1, q2, q3, q4, by simp⟩
                case fsl cs0 s0 len cap =>
                  by_cases hs0 : s0 = i.size
                  · subst hs0
                    rw [nbeq, decide_eq_true rfl, cond_true] at hc
                    have hs' := hs
                    simp only [RepV] at hs
                    obtain ⟨b, o, c, capc, hv, hle, hcap, hcl, hfc, hfl⟩ := hs
                    have := hlen _ _ _ hv
                    subst this
                    by_cases h0 : m = 0
                    · subst h0
                      rw [show Nat.beq 0 0 = true from rfl, cond_true] at hc
                      cases hc
                      refine ⟨_, w, E, run_append_in (mk _ _ hv) hlm hle f1 ?_ ty, by rw [hv] at hs'; exact hs', hH, Fr.refl _ _ _ _, rfl⟩
                      rw [us0 rfl]; rfl
                    · rw [nbeq_false h0, cond_false] at hc
                      split at hc
                      · cases hc
                      · rename_i c0
                        have hcc := hcap c0 rfl
                        by_cases hle2 : Nat.ble (len + m) c0 = true
                        · rw [hle2, cond_true] at hc; cases hc
                        · rw [Bool.not_eq_true] at hle2
                          rw [hle2, cond_false] at hc
                          rw [nble] at hle2
                          have hgt := of_decide_eq_false hle2
                          split at hc
                          · rename_i xs hxs
                            unfold growNew at hc
                            simp only [forceCs_eq, forceN_eq, appL_eq] at hc
                            cases hc
                            obtain ⟨old, o1, o2, o3⟩ := firstA_all (P := P) (h := h) (n := len) (sz := i.size) hH hs' (ys := xs) (by simp only [firstA]; rw [nbeq, decide_eq_true rfl, cond_true]; exact hxs) (fun k hk => by simp only [lenA] at hk; cases hk; exact Nat.le_refl _)
                            obtain ⟨r, w', E', q1, q2, q3, q4⟩ := grow (xs := xs) (old := old) hv (by omega) (fun d => o1 _ rfl) o2 o3 rfl
                            exact ⟨r, w', E', q1, q2, q3, q4, by simp⟩
                          · cases hc
                  · rw [nbeq_false hs0, cond_false] at hc; cases hc
                case sl sid ver off s0 len cap =>
                  by_cases hs0 : s0 = i.size
                  · subst hs0
                    rw [nbeq, decide_eq_true rfl, cond_true] at hc
                    have hs' := hs
                    simp only [RepV] at hs
                    obtain ⟨b, o, capc, hv, hle, hcap, e0, he0, hver, hp⟩ := hs
                    have := hlen _ _ _ hv
                    subst this
                    -- a write into the row, as far as there is room
                    have wr : ∀ {h1 : AH}, wrRow h sid ver (off + len * i.size) ys (h.get sid) = some h1 → len + m ≤ capc →
                        ∃ w', (Builtin.append_ ts ty args).run P w = .ok (.slice (some ⟨b, o, none⟩) (len + m) capc) w' ∧ RepH P E h1.get w' ∧ Fr N E h.get w E h1.get w' ∧ h1.next = h.next := by
                      intro h1' hwr hroom
                      by_cases h0 : m = 0
                      · subst h0
                        have hys0 : ys = [] := List.eq_nil_of_length_eq_zero (by rw [f3, Nat.zero_mul])
                        obtain ⟨rr, cs, hg, hrv, hsp, hlp, rfl⟩ := wrRow_some hwr
                        subst hys0
                        obtain ⟨e2, e3⟩ := splice_eq hsp
                        simp at e2
                        obtain ⟨e4, he4, hev, hrow, _⟩ := hH.rows sid rr hg
                        obtain ⟨q1, q2⟩ := hH.keep (w' := w) (N := N) (r' := ⟨ver, cs, none⟩) hg he4 hrv.symm (RowAt.is (by rw [e2]; exact hrow.cells hlp) rfl) rfl rfl rfl (Nat.le_refl _) (fun _ _ => rfl)
                        rw [gset_put]
                        refine ⟨w, run_append_in (mk _ _ hv) hlm hroom f1 (by rw [us0 rfl]; rfl) ty, q1, q2, by simp⟩
                      · obtain ⟨w', q1, q2, q3, q4⟩ := wrRow_sound (P := P) (N := N) (b := b) (o := o + len * i.size) hH hwr f2 h1 he0 (fun hx => by
                          obtain ⟨p1, p2, p3⟩ := hp hx
                          refine ⟨p1, ?_⟩
                          rcases p2 with p2 | p2
                          · omega
                          · omega)
                        exact ⟨w', run_append_in (mk _ _ hv) hlm hroom f1 (by simp only [Addr.add_mid]; exact q1) ty, q2, q3, q4⟩
                    cases cap with
                    | some c0 =>
                      simp only at hc
                      have hcc := hcap c0 rfl
                      by_cases hle2 : Nat.ble (len + m) c0 = true
                      · rw [hle2, cond_true] at hc
                        rw [nble] at hle2
                        have hroom := of_decide_eq_true hle2
                        unfold slO at hc
                        split at hc
                        · rename_i h1' hwr
                          simp only [forceN_eq] at hc
                          cases hc
                          obtain ⟨w', q1, q2, q3, q4⟩ := wr hwr (by omega)
                          refine ⟨_, w', E, q1, ?_, q2, q3, q4⟩
                          simp only [RepV]
                          exact ⟨b, o, capc, rfl, by omega, hcap, e0, he0, hver, hp⟩
                        · cases hc
                      · rw [Bool.not_eq_true] at hle2
                        rw [hle2, cond_false] at hc
                        rw [nble] at hle2
                        have hgt := of_decide_eq_false hle2
                        split at hc
                        · rename_i xs hxs
                          unfold growNew at hc
                          simp only [forceCs_eq, forceN_eq, appL_eq] at hc
                          cases hc
                          obtain ⟨old, o1, o2, o3⟩ := firstA_all (P := P) (h := h) (n := len) (sz := i.size) hH hs' (ys := xs) (by simp only [firstA]; rw [nbeq, decide_eq_true rfl, cond_true]; exact hxs) (fun k hk => by simp only [lenA] at hk; cases hk; exact Nat.le_refl _)
                          obtain ⟨r, w', E', q1, q2, q3, q4⟩ := grow (xs := xs) (old := old) hv (by omega) (fun d => o1 _ rfl) o2 o3 rfl
                          exact ⟨r, w', E', q1, q2, q3, q4, by simp⟩
                        · cases hc
                    | none =>
                      simp only at hc
                      unfold appOpen at hc
                      cases hg : h.get sid with
                      | none => rw [hg] at hc; cases hc
                      | some rr =>
                        rw [hg] at hc
                        simp only at hc
                        cases hft : rr.fits ver with
                        | true =>
                          obtain ⟨hrv, hlp⟩ := fits_true hft
                          rw [hft, cond_true] at hc
                          obtain ⟨e1, he1, hev, hrow, hfro⟩ := hH.rows sid rr hg
                          rw [he0] at he1; cases he1
                          obtain ⟨p1, p2, p3⟩ := hp (hev.trans hrv)
                          have p3 := p3 rfl
                          by_cases hin : Nat.ble (off + (len + m) * i.size) rr.cs.length = true
                          · rw [hin, cond_true] at hc
                            rw [nble] at hin
                            have hin := of_decide_eq_true hin
                            obtain ⟨c, tt, z, hcb, hcs, hle3, hz, hll⟩ := (hrow.cells hlp).ex
                            have hroom : len + m ≤ capc := by
                              have : (len + m) * i.size ≤ capc * i.size := by omega
                              exact Nat.le_of_mul_le_mul_right this hsz
                            unfold slO at hc
                            split at hc
                            · rename_i h1' hwr
                              simp only [forceN_eq] at hc
                              cases hc
                              rw [← hg] at hwr
                              obtain ⟨w', q1, q2, q3, q4⟩ := wr hwr hroom
                              refine ⟨_, w', E, q1, ?_, q2, q3, q4⟩
                              simp only [RepV]
                              exact ⟨b, o, capc, rfl, hroom, hcap, e0, he0, hver, fun _ => ⟨p1, p2, fun _ => p3⟩⟩
                            · cases hc
                          · rw [Bool.not_eq_true] at hin
                            rw [hin, cond_false] at hc
                            split at hc
                            · rename_i xs hxs
                              unfold growOld at hc
                              simp only [forceCs_eq, forceN_eq, appL_eq] at hc
                              cases hc
                              subst hrv
                              obtain ⟨r, w', E', q1, q2, q3, q4⟩ := app_old (P := P) (N := N) hH hg he0 hev hlp hsz p1 p2 p3 hle hxs f2 f3 h1 (run := fun _ => True) (r := vs) (Builtin.append_ ts ty args)
                                (fun hroom w' hst => run_append_in (mk _ _ hv) hlm hroom f1 (by simp only [Addr.add_mid]; exact hst) ty)
                                (fun hgt old ho => by
                                  obtain ⟨c, hc, hrun⟩ := run_append_new (mk _ _ hv) hlm hgt hb (fun d => ho _ rfl) fus ty
                                  exact ⟨c, e, _, hc, by rw [zeroCells_size, (mk _ _ hv).zs], hrun⟩)
                              exact ⟨r, w', E', q1, q2, q3, q4, by simp⟩
                            · cases hc
                        | false => rw [hft, cond_false] at hc; cases hc
                  · rw [nbeq_false hs0, cond_false] at hc; cases hc
            · cases hc
          · rw [Bool.not_eq_true] at hcond
            rw [hcond, cond_false] at hc; cases hc
        · rw [nbeq_false hzl, cond_false] at hc; cases hc
      · cases hc
    · cases hc
  · cases hc

/-! ### clear -/
theorem clearD_sound {h h' : AH} (hH : RepH P E h.get w) {t : TypeId} {x y : AV} {v : Value} (hx : RepV E x v) {N : Nat → Prop} (hc : clearD P h (P.underlying t) x = some (y, h')) {ts : Array TypeId} {args : Array Value} (ht : ts[0]? = some t) (a0 : args[0]? = some v) (ty : TypeId) :
    ∃ u w', (Builtin.clear_ ts ty args).run P w = .ok u w' ∧ RepV E y u ∧ RepH P E h'.get w' ∧ Fr N E h.get w E h'.get w' ∧ h'.next = h.next := by
  unfold clearD at hc
  split at hc
  · rename_i e hu
    have none' : ∀ (a : Option Addr) (c l : Nat), v = .slice a l c → l = 0 ∨ a = none → (Builtin.clear_ ts ty args).run P w = .ok undef w := by
      intro a c l hv hl
      subst hv
      unfold Builtin.clear_
      simp only [ht, a0, Sem.run_bind, run_und hu, Result.andThen_ok]
      cases a with
      | none => rfl
      | some a =>
        cases l with
        | zero => rfl
        | succ l => rcases hl with hl | hl <;> cases hl
    cases x <;> simp only at hc <;> try cases hc
    case nils.refl =>
      simp only [RepV] at hx
      exact ⟨undef, w, none' none 0 0 hx (.inl rfl), repV_undef E, hH, Fr.refl _ _ _ _, rfl⟩
    case sl id ver off sz len cap =>
      simp only [RepV] at hx
      obtain ⟨b, o, capc, hv, hle, hcap, e0, he0, hver, hp⟩ := hx
      by_cases h0 : len = 0
      · subst h0
        rw [show Nat.beq 0 0 = true from rfl, cond_true] at hc
        cases hc
        exact ⟨undef, w, none' _ _ _ hv (.inl rfl), repV_undef E, hH, Fr.refl _ _ _ _, rfl⟩
      · rw [nbeq_false h0, cond_false] at hc
        unfold clearSl at hc
        split at hc
        · rename_i s cs hro
          obtain ⟨hs, hs0, hcl, zv, hzr, hzs, hzl⟩ := rowOf_some hro
          by_cases hcond : (Nat.beq s sz && allOne cs) = true
          · rw [hcond, cond_true] at hc
            rw [Bool.and_eq_true] at hcond
            have := nbeq_true hcond.1
            subst this
            split at hc
            · rename_i h1 hwr
              cases hc
              obtain ⟨w', q1, q2, q3, q4⟩ := wrRow_sound (P := P) (N := N) (b := b) (o := o) hH hwr (hzl E) hcond.2 he0 (fun hx => by
                obtain ⟨p1, p2, p3⟩ := hp hx
                refine ⟨p1, ?_⟩
                rcases p2 with p2 | p2 <;> omega)
              refine ⟨undef, w', ?_, repV_undef E, q2, q3, q4⟩
              subst hv
              have hz : Builtin.zeroCells zv.cells len = (Array.range (len * s)).map (fun i => zv.cells[i % zv.cells.size]!) := by
                unfold Builtin.zeroCells; rw [hzs]
              unfold Builtin.clear_
              simp only [ht, a0, Sem.run_bind, run_und hu, Result.andThen_ok]
              cases len with
              | zero => exact absurd rfl h0
              | succ len =>
                simp only [Sem.run_bind, hzr, Result.andThen_ok, hz, q1, Sem.run_pure]
                rfl
            · cases hc
          · rw [Bool.not_eq_true] at hcond
            rw [hcond, cond_false] at hc; cases hc
        · cases hc
    case fsl cs sz len cap =>
      simp only [RepV] at hx
      obtain ⟨b, o, c, capc, hv, _⟩ := hx
      by_cases h0 : len = 0
      · subst h0
        rw [show Nat.beq 0 0 = true from rfl, cond_true] at hc
        cases hc
        exact ⟨undef, w, none' _ _ _ hv (.inl rfl), repV_undef E, hH, Fr.refl _ _ _ _, rfl⟩
      · rw [nbeq_false h0, cond_false] at hc; cases hc
  · cases hc

end Go.Proofs.YtckcgijepiejlaaGreat.Ae
