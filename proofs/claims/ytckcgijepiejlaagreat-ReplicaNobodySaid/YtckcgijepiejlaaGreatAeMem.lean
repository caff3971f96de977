/-
  WHAT WRITES: a new row, a write into a row, a row that grows: the machine's world and the evaluator's heap go together.
-/
import Derived.Test.YtckcgijepiejlaaGreatAeOps3
namespace Go.Proofs.YtckcgijepiejlaaGreat.Ae
open Go
set_option linter.unusedVariables false
set_option linter.unusedSimpArgs false
set_option linter.unnecessarySimpa false
variable {P : Program} {E : Env} {w : World}

def Env.set (E : Env) (id : Nat) (e : Ent) : Env := { E with ids := fun i => if i = id then some e else E.ids i }
def gset (g : Nat → Option Row) (id : Nat) (r : Row) : Nat → Option Row := fun i => if i = id then some r else g i

theorem gset_put (h : AH) (id : Nat) (r : Row) : (h.put id r).get = gset h.get id r := funext fun m => AH.get_put h id m r

theorem Env.le_set {id : Nat} {e : Ent} (h : ∀ e0, E.ids id = some e0 → e0.ver < e.ver) : E.le (E.set id e) := by
  refine ⟨fun i f hf => ?_, fun b c hb => hb⟩
  by_cases hi : i = id
  · subst hi
    exact ⟨e, by simp [Env.set], .inr (h f hf)⟩
  · exact ⟨f, by simp [Env.set, hi, hf], .inl rfl⟩

theorem RepH.lt {g : Nat → Option Row} (hH : RepH P E g w) {id : Nat} {r : Row} {e : Ent} (hg : g id = some r) (he : E.ids id = some e) : e.blk < w.heap.size := by
  obtain ⟨e', he', _, hri, _⟩ := hH.rows id r hg
  rw [he] at he'; cases he'
  exact hri.lt

/-- A ROW COMES, OR COMES TO A NEW VERSION: its block is new, or was its own. -/
theorem RepH.set {g : Nat → Option Row} (hH : RepH P E g w) {w' : World} {id : Nat} {N : Nat → Prop} {r : Row} {e : Ent}
    (hver : ∀ e0, E.ids id = some e0 → e0.ver < e.ver) (hev : e.ver = r.ver)
    (hrow : RowIs P (E.set id e) w' e r)
    (hblk : w.heap.size ≤ e.blk ∨ ∃ r0 e0, g id = some r0 ∧ E.ids id = some e0 ∧ e0.blk = e.blk)
    (hn : E.ids id = none → N id) (hgE : E.ids id ≠ none → g id ≠ none)
    (hos : w'.os = w.os) (htape : w'.tape = w.tape) (hout : w'.output = w.output) (hsize : w.heap.size ≤ w'.heap.size)
    (hsame : ∀ b, b < w.heap.size → b ≠ e.blk → w'.heap[b]? = w.heap[b]?) :
    RepH P (E.set id e) (gset g id r) w' ∧ Fr N E g w (E.set id e) (gset g id r) w' := by
  have hle := Env.le_set (E := E) hver
  have hfroB : ∀ b c, E.fro b = some c → b < w.heap.size ∧ b ≠ e.blk := by
    intro b c hb
    obtain ⟨t, z, hc⟩ := hH.fro b c hb
    have hlt := (Array.getElem?_eq_some_iff.1 hc).1
    refine ⟨hlt, fun heq => ?_⟩
    rcases hblk with h1 | ⟨r0, e0, hg0, he0, hb0⟩
    · omega
    · obtain ⟨e1, he1, _, _, hf⟩ := hH.rows id r0 hg0
      rw [he0] at he1; cases he1
      rw [hb0, ← heq, hb] at hf; cases hf
  have hother : ∀ i ri ei, i ≠ id → g i = some ri → E.ids i = some ei → ei.blk < w.heap.size ∧ ei.blk ≠ e.blk := by
    intro i ri ei hi hgi hei
    refine ⟨hH.lt hgi hei, fun heq => ?_⟩
    rcases hblk with h1 | ⟨r0, e0, hg0, he0, hb0⟩
    · have := hH.lt hgi hei; omega
    · exact hi (hH.inj i id ri r0 ei e0 hgi hg0 hei he0 (by omega))
  constructor
  · refine ⟨?_, ?_, ?_⟩
    · intro i ri hgi
      by_cases hi : i = id
      · subst hi
        simp only [gset, if_pos] at hgi
        cases hgi
        refine ⟨e, by simp [Env.set], hev, hrow, ?_⟩
        show E.fro e.blk = none
        cases hf : E.fro e.blk with
        | none => rfl
        | some c => exact absurd rfl (hfroB _ c hf).2
      · simp only [gset, if_neg hi] at hgi
        obtain ⟨ei, hei, hvi, hri, hfi⟩ := hH.rows i ri hgi
        obtain ⟨h1, h2⟩ := hother i ri ei hi hgi hei
        exact ⟨ei, by simp [Env.set, hi, hei], hvi, (hri.block (hsame _ h1 h2)).mono hle, hfi⟩
    · intro i j ri rj ei ej hgi hgj hei hej hb
      by_cases hi : i = id
      · by_cases hj : j = id
        · omega
        · simp only [gset, if_neg hj] at hgj
          simp only [Env.set, if_neg hj] at hej
          subst hi
          simp only [Env.set, if_pos] at hei
          cases hei
          exact absurd hb.symm (hother j rj ej hj hgj hej).2
      · by_cases hj : j = id
        · simp only [gset, if_neg hi] at hgi
          simp only [Env.set, if_neg hi] at hei
          subst hj
          simp only [Env.set, if_pos] at hej
          cases hej
          exact absurd hb (hother i ri ei hi hgi hei).2
        · simp only [gset, if_neg hi] at hgi
          simp only [gset, if_neg hj] at hgj
          simp only [Env.set, if_neg hi] at hei
          simp only [Env.set, if_neg hj] at hej
          exact hH.inj i j ri rj ei ej hgi hgj hei hej hb
    · intro b c hb
      obtain ⟨t, z, hc⟩ := hH.fro b c hb
      obtain ⟨h1, h2⟩ := hfroB b c hb
      exact ⟨t, z, by rw [hsame b h1 h2]; exact hc⟩
  · refine ⟨hle, fun _ _ => rfl, ?_, ?_, ?_, ?_, hos, htape, hout, hsize, ?_, ?_⟩
    · intro i hi hi'
      by_cases h : i = id
      · subst h; exact hn hi
      · simp [Env.set, h, hi] at hi'
    · intro i ei hi hgi
      by_cases h : i = id
      · subst h; exact absurd hgi (hgE (by rw [hi]; simp))
      · simp [Env.set, h, hi]
    · intro i hi
      by_cases h : i = id
      · simp [gset, h]
      · simpa [gset, h] using hi
    · intro i hi hi'
      by_cases h : i = id
      · subst h
        by_cases hE : E.ids i = none
        · exact hE
        · exact absurd hi (hgE hE)
      · simp [gset, h, hi] at hi'
    · intro b hb hno
      by_cases hbe : b = e.blk
      · rcases hblk with h1 | ⟨r0, e0, hg0, he0, hb0⟩
        · omega
        · exact absurd (by omega) (hno id r0 e0 hg0 he0)
      · exact hsame b hb hbe
    · intro i ri ei hgi hei
      by_cases h : i = id
      · subst h
        simp only [Env.set, if_pos] at hei
        cases hei
        rcases hblk with h1 | ⟨r0, e0, hg0, he0, hb0⟩
        · exact .inl h1
        · exact .inr ⟨_, r0, e0, hg0, he0, hb0⟩
      · simp only [gset, if_neg h] at hgi
        simp only [Env.set, if_neg h] at hei
        exact .inr ⟨_, ri, ei, hgi, hei, rfl⟩

/-- A NEW ROW. -/
theorem RepH.push {g : Nat → Option Row} (hH : RepH P E g w) {w' : World} {id : Nat} {N : Nat → Prop} (hid : E.ids id = none) (hn : N id) {c : Array Value} {t : TypeId} {z : Nat × Nat} {cs : List AV}
    (hz : z.1 = z.2 ∨ z = (c.size, c.size + 1)) (hl : RepL E cs (c.toList.take cs.length)) (hlen : cs.length ≤ c.size)
    (hos : w'.os = w.os) (htape : w'.tape = w.tape) (hout : w'.output = w.output) (hheap : w'.heap = w.heap.push (.cells c t z)) :
    RepH P (E.set id ⟨0, w.heap.size, 0, c.size⟩) (gset g id ⟨0, cs, none⟩) w' ∧ Fr N E g w (E.set id ⟨0, w.heap.size, 0, c.size⟩) (gset g id ⟨0, cs, none⟩) w' := by
  have hle : E.le (E.set id ⟨0, w.heap.size, 0, c.size⟩) := Env.le_set fun e0 h => by rw [hid] at h; cases h
  refine hH.set (fun e0 h => by rw [hid] at h; cases h) rfl (RowAt.is ⟨c, t, z, ?_, rfl, by simpa using hlen, hz, ?_⟩ rfl) (.inl (Nat.le_refl _)) (fun _ => hn) (fun h => absurd hid h) hos htape hout (by rw [hheap]; simp) ?_
  · rw [hheap]; simp
  · simpa using hl.mono hle
  · intro b hb hbe
    rw [hheap, Array.getElem?_push, if_neg (by simpa using hbe)]

/-- as the machine makes a row -/
theorem newVar_run (t : TypeId) (v : Value) : (newVar t v).run P w = .ok ⟨w.heap.size, 0, none⟩ { w with heap := w.heap.push (.cells v.cells t (0, 0)) } := by
  simp [newVar, newRow]
theorem newRow_run (t : TypeId) (c : Array Value) : (newRow t c).run P w = .ok ⟨w.heap.size, 0, none⟩ { w with heap := w.heap.push (.cells c t (0, 0)) } := by
  simp [newRow]

/-- what an operation does that makes a row: the machine's value, its world -/
def Mk (P : Program) (E : Env) (g : Nat → Option Row) (w : World) (N : Nat → Prop) (id : Nat) (s : Sem Value) (x : AV) (cs : List AV) : Prop :=
  ∃ u w' E', s.run P w = .ok u w' ∧ RepV E' x u ∧ RepH P E' (gset g id ⟨0, cs, none⟩) w' ∧ Fr N E g w E' (gset g id ⟨0, cs, none⟩) w' ∧ ∃ e, E'.ids id = some e

theorem mk_ptr {g : Nat → Option Row} (hH : RepH P E g w) {id : Nat} {N : Nat → Prop} (hid : E.ids id = none) (hn : N id) {t : TypeId} {c : Array Value} {cs : List AV} (hl : RepL E cs c.toList) {s : Sem Value}
    (hs : s.run P w = .ok (.pointer (some ⟨w.heap.size, 0, none⟩)) { w with heap := w.heap.push (.cells c t (0, 0)) }) : Mk P E g w N id s (.ptr id 0 0) cs := by
  have hlen : cs.length = c.size := by rw [hl.length]; simp
  obtain ⟨h1, h2⟩ := hH.push (w' := { w with heap := w.heap.push (.cells c t (0, 0)) }) hid hn (cs := cs) (.inl rfl) (by rw [hlen, List.take_of_length_le (by simp)]; exact hl) (by omega) rfl rfl rfl rfl
  refine ⟨_, _, _, hs, ?_, h1, h2, ⟨_, by simp [Env.set]; rfl⟩⟩
  simp only [RepV]
  exact ⟨_, _, rfl, ⟨0, w.heap.size, 0, c.size⟩, by simp [Env.set], by simp, fun _ => ⟨rfl, rfl⟩⟩

theorem mk_slice {g : Nat → Option Row} (hH : RepH P E g w) {id : Nat} {N : Nat → Prop} (hid : E.ids id = none) (hn : N id) {t : TypeId} {c : Array Value} {cs : List AV} (hl : RepL E cs c.toList) {len cap sz : Nat} (hlc : len ≤ cap) {s : Sem Value}
    (hs : s.run P w = .ok (.slice (some ⟨w.heap.size, 0, none⟩) len cap) { w with heap := w.heap.push (.cells c t (0, 0)) }) : Mk P E g w N id s (.sl id 0 0 sz len (some cap)) cs := by
  have hlen : cs.length = c.size := by rw [hl.length]; simp
  obtain ⟨h1, h2⟩ := hH.push (w' := { w with heap := w.heap.push (.cells c t (0, 0)) }) hid hn (cs := cs) (.inl rfl) (by rw [hlen, List.take_of_length_le (by simp)]; exact hl) (by omega) rfl rfl rfl rfl
  refine ⟨_, _, _, hs, ?_, h1, h2, ⟨_, by simp [Env.set]; rfl⟩⟩
  simp only [RepV]
  exact ⟨_, _, _, rfl, hlc, (fun c hc => by cases hc; rfl), ⟨0, w.heap.size, 0, c.size⟩, by simp [Env.set], by simp, fun _ => ⟨rfl, .inl rfl, fun hx => by cases hx⟩⟩

/-! ### rows of equal elements -/
theorem repCells_length (z : List AV) : ∀ n, (repCells z n).length = n * z.length
  | 0 => by simp [repCells_zero]
  | n + 1 => by simp [repCells_succ, repCells_length z n, Nat.succ_mul]; omega
theorem repCells_get (z : List AV) : ∀ (n i : Nat), i < n * z.length → (repCells z n)[i]? = z[i % z.length]?
  | 0, i, h => by simp at h
  | n + 1, i, h => by
    rw [repCells_succ]
    by_cases hi : i < z.length
    · rw [List.getElem?_append_left hi, Nat.mod_eq_of_lt hi]
    · rw [List.getElem?_append_right (by omega), repCells_get z n _ (by rw [Nat.succ_mul] at h; omega)]
      congr 1
      rw [← Nat.mod_eq_sub_mod (by omega)]

theorem repL_repCells {z : List AV} {zs : Array Value} (hz : RepL E z zs.toList) (n : Nat) : RepL E (repCells z n) ((Array.range (n * zs.size)).map (fun i => zs[i % zs.size]!)).toList := by
  have hlen : z.length = zs.size := by rw [hz.length]; simp
  refine RepL.of_get (by rw [repCells_length, hlen]; simp) ?_
  intro i c v hc hv
  have hi : i < n * z.length := by
    have := (List.getElem?_eq_some_iff.1 hc).1
    rwa [repCells_length] at this
  rw [repCells_get z n i hi] at hc
  obtain ⟨u, hu, hr⟩ := hz.get _ _ hc
  have h0 : 0 < zs.size := by
    rcases Nat.eq_zero_or_pos zs.size with h | h
    · rw [hlen, h] at hi; simp at hi
    · exact h
  have e : v = u := by
    rw [hlen] at hu
    simp only [Array.toList_map, List.getElem?_map, Array.toList_range] at hv
    rw [List.getElem?_range (by rw [← hlen]; exact hi)] at hv
    simp only [Option.map_some, Option.some.injEq] at hv
    subst hv
    have hlt : i % zs.size < zs.size := Nat.mod_lt _ h0
    rw [getElem!_pos zs _ hlt]
    have : zs[i % zs.size]? = some u := by simpa using hu
    rw [Array.getElem?_eq_getElem hlt] at this
    exact Option.some.inj this
  rw [e]; exact hr

theorem rowOf_some {e : TypeId} {n s : Nat} {cs : List AV} (h : rowOf P e n = some (s, cs)) :
    szOf P e = some s ∧ s ≠ 0 ∧ cs.length = n * s ∧ ∃ zv, (∀ w, (zeroValue e).run P w = .ok zv w) ∧ zv.cells.size = s ∧ ∀ E, RepL E cs ((Array.range (n * s)).map (fun i => zv.cells[i % zv.cells.size]!)).toList := by
  unfold rowOf at h
  split at h
  · rename_i s' hs
    split at h
    · rename_i z hz
      by_cases hc : (Nat.beq z.cells.length s' && !Nat.beq s' 0) = true
      · rw [hc, cond_true] at h
        simp only [forceCs_eq] at h
        cases h
        simp only [Bool.and_eq_true, Bool.not_eq_true', nbeq, decide_eq_true_eq, decide_eq_false_iff_not] at hc
        obtain ⟨i, zv, hi, hzv, rfl⟩ := zeroA_some hz
        have hl := fun E => repL_toAV_cells E zv
        have hsz : zv.cells.size = s := by rw [← hc.1, (hl ⟨fun _ => none, fun _ => none⟩).length]; simp
        refine ⟨hs, hc.2, by rw [repCells_length, hc.1], zv, fun w => by simp [zeroValue, run_info hi, hzv], hsz, fun E => ?_⟩
        have := repL_repCells (hl E) n
        rwa [hsz] at this ⊢
      · rw [Bool.not_eq_true] at hc
        rw [hc, cond_false] at h; cases h
    · cases h
  · cases h

theorem bytesN_some : ∀ {n : Nat} {s : List UInt8} {r : List AV}, bytesN n s = some r → r = (s.take n).map byteA ∧ r.length = n
  | 0, s, r, h => by
    have : bytesN 0 s = some [] := rfl
    rw [this] at h; cases h; simp
  | n + 1, [], r, h => by
    have : bytesN (n + 1) [] = none := rfl
    rw [this] at h; cases h
  | n + 1, c :: s, r, h => by
    have e : bytesN (n + 1) (c :: s) = match bytesN n s with | some r => some (byteA c :: r) | none => none := rfl
    rw [e] at h
    split at h
    · rename_i r1 h1
      cases h
      obtain ⟨e1, e2⟩ := bytesN_some h1
      subst e1
      simp at e2 ⊢; omega
    · cases h

theorem repL_bytes : ∀ s : List UInt8, RepL E (s.map byteA) (s.map fun b => Value.int .u8 b.toNat)
  | [] => RepL.nil
  | b :: s => RepL.cons (repV_byte b) (repL_bytes s)

def byteRow (b : List UInt8) (cap : Nat) : Array Value := (b.toArray.map fun (c : UInt8) => Value.int .u8 c.toNat) ++ Array.replicate (cap - b.length) (Value.int .u8 0)
theorem byteRow_size {b : List UInt8} {cap : Nat} (h : b.length ≤ cap) : (byteRow b cap).size = cap := by simp [byteRow]; omega
theorem byteRow_take (b : List UInt8) (cap : Nat) : (byteRow b cap).toList.take (b.map byteA).length = b.map fun c => Value.int .u8 c.toNat := by
  simp [byteRow]

/-- the bytes of a text in memory of their own: with room behind them, as the tape says -/
theorem mk_bytes {g : Nat → Option Row} (hH : RepH P E g w) {id : Nat} {N : Nat → Prop} (hid : E.ids id = none) (hn : N id) (e : TypeId) (b : List UInt8) :
    Mk P E g w N id (Conv.stringToBytes e ⟨b.toArray⟩) (.sl id 0 0 1 b.length none) (b.map byteA) := by
  have hq : (Question.appendCap b.length 0 e).forced = false := rfl
  obtain ⟨cap, hcap, hle⟩ : ∃ cap, (Question.appendCap b.length 0 e).cut (w.tape w.drawn (.appendCap b.length 0 e)) = cap ∧ b.length ≤ cap := ⟨_, rfl, by simp [Question.cut]⟩
  have hc := byteRow_size hle
  obtain ⟨h1, h2⟩ := hH.push (w' := { w with drawn := w.drawn + 1, heap := w.heap.push (.cells (byteRow b cap) e (cap, cap + 1)) }) hid hn
    (cs := b.map byteA) (.inr (by rw [hc])) (by rw [byteRow_take]; exact repL_bytes b) (by rw [hc]; simpa using hle) rfl rfl rfl rfl
  refine ⟨.slice (some ⟨w.heap.size, 0, none⟩) b.length cap, _, _, ?_, ?_, h1, h2, ⟨_, by simp [Env.set]; rfl⟩⟩
  · have hsh : World.shape? { w with drawn := w.drawn + 1, heap := w.heap.push (.cells (byteRow b cap) e (0, 0)) } w.heap.size = some (e, cap) := by
      simp only [World.shape?, Array.getElem?_push_size, hc]
    have hfz : World.freeze { w with drawn := w.drawn + 1, heap := w.heap.push (.cells (byteRow b cap) e (0, 0)) } { block := w.heap.size, off := cap } 1 = { w with drawn := w.drawn + 1, heap := w.heap.push (.cells (byteRow b cap) e (cap, cap + 1)) } := by
      unfold World.freeze
      rw [if_neg (by omega)]
      congr 1
      simp only
      apply Array.ext_getElem?
      intro i
      rw [Array.getElem?_modify, Array.getElem?_push, Array.getElem?_push]
      by_cases hi : w.heap.size = i
      · subst hi; simp
      · rw [if_neg hi, if_neg (Ne.symm hi), if_neg (Ne.symm hi)]
    have hbr : ((b.toArray.map fun (c : UInt8) => Value.int .u8 c.toNat) ++ Array.replicate (cap - b.length) (Value.int .u8 0)) = byteRow b cap := rfl
    simp only [Conv.stringToBytes, bytes_size, Sem.run_bind, run_choose, hq, Bool.false_eq_true, if_false, Result.andThen_ok, hcap, hbr, newRow_run, markStringish, run_shape, hsh, run_freeze, hfz, Sem.run_pure]
  · simp only [RepV]
    exact ⟨_, _, _, rfl, hle, (fun c hc => by cases hc), ⟨0, w.heap.size, 0, (byteRow b cap).size⟩, by simp [Env.set], by simp, fun _ => ⟨rfl, .inl rfl, fun _ => by simp only [hc]; omega⟩⟩

theorem wrap64_nat {n : Nat} (h : n ≤ 140737488355328) : IntKind.i64.wrap (n : Int) = n := by
  have := wrapP_eq .i64 n
  simp only [wrapP, nblt] at this
  rw [decide_eq_true (by omega), cond_true] at this
  exact this.symm

theorem run_makeSlice {t e : TypeId} {i : TypeInfo} {s : Nat} {zv : Value} (hu : P.underlying t = some (.slice e)) (hi : P.info? e = some i) (hs : szOf P e = some s) (hz : ∀ w, (zeroValue e).run P w = .ok zv w)
    {l c : Nat} (hlc : l ≤ c) (hb : i.bytes * c ≤ 140737488355328) (hc : c ≤ 140737488355328) {kl kc : IntKind} :
    (Instr.makeSlice t (.int kl l) (.int kc c)).run P w = .ok (.slice (some ⟨w.heap.size, 0, none⟩) l c) { w with heap := w.heap.push (.cells ((Array.range (c * s)).map (fun i => zv.cells[i % zv.cells.size]!)) e (0, 0)) } := by
  have w1 := wrap64_nat (n := l) (by omega)
  have w2 := wrap64_nat hc
  have e1 : ¬ ((i.bytes : Int) * (c : Int) > 2 ^ 48) := by
    have h1 : ((i.bytes * c : Nat) : Int) ≤ ((140737488355328 : Nat) : Int) := Int.ofNat_le.2 hb
    rw [Int.natCast_mul] at h1
    omega
  have e2 : ¬ ((c : Int) < 0) := by omega
  have e3 : ¬ ((l : Int) < 0) := by omega
  have e4 : ¬ ((l : Int) > (c : Int)) := by omega
  have e5 : (decide ((c : Int) < 0) || decide ((i.bytes : Int) * (c : Int) > 2 ^ 48) || decide ((l : Int) < 0) || decide ((l : Int) > (c : Int))) = false := by
    rw [decide_eq_false e1, decide_eq_false e2, decide_eq_false e3, decide_eq_false e4]; rfl
  unfold Instr.makeSlice
  simp only [Sem.run_bind, run_und hu, Result.andThen_ok, asInt, asIntOf, Sem.run_pure, run_info hi, w1, w2]
  rw [if_neg (by rw [e5]; simp)]
  simp only [Sem.run_bind, run_askRoom, Result.andThen_ok, run_sz hs, Int.toNat_natCast, Sem.run_ite]
  by_cases h0 : c * s = 0
  · have r0 : Array.range 0 = #[] := rfl
    rw [if_pos h0, h0]
    simp [newRow_run, r0]
  · rw [if_neg h0]
    simp [hz, newRow_run]

theorem opMakeA_sound {g : Nat → Option Row} (hH : RepH P E g w) {tm : Tm} {a : Act} {o : Oper} (hT : ∀ x ∈ o.op.operands, RepV E (evo tm x) (a.eval x)) {id : Nat} {N : Nat → Prop} (hid : E.ids id = none) (hn : N id) {x : AV} {cs : List AV}
    (hr : opMakeA P tm id o.op = some (x, cs)) (h1 : allOne cs = true) :
    ∃ u w' E', (execOp a.eval o).run P w = .ok (.value u) w' ∧ RepV E' x u ∧ RepH P E' (gset g id ⟨0, cs, none⟩) w' ∧ Fr N E g w E' (gset g id ⟨0, cs, none⟩) w' ∧ ∃ e, E'.ids id = some e := by
  have fin : ∀ {s : Sem Value}, Mk P E g w N id s x cs → execOp a.eval o = (do pure (.value (← s))) →
      ∃ u w' E', (execOp a.eval o).run P w = .ok (.value u) w' ∧ RepV E' x u ∧ RepH P E' (gset g id ⟨0, cs, none⟩) w' ∧ Fr N E g w E' (gset g id ⟨0, cs, none⟩) w' ∧ ∃ e, E'.ids id = some e := by
    intro s ⟨u, w', E', h1, h2⟩ e
    exact ⟨u, w', E', by rw [e]; simp [h1], h2⟩
  cases hop : o.op <;> rw [hop] at hr hT <;> simp only [opMakeA] at hr
  case alloc e =>
    unfold rowP at hr
    split at hr
    · rename_i z hz
      cases hr
      obtain ⟨i, zv, hi, hzv, rfl⟩ := zeroA_some hz
      refine fin (s := Instr.alloc e true (.tuple #[])) (mk_ptr (P := P) (t := e) (c := zv.cells) hH hid hn (repL_toAV_cells E zv) ?_) (by simp [execOp, hop])
      simp [Instr.alloc, zeroValue, run_info hi, hzv, newVar_run]
    · cases hr
  case box e v =>
    have V := hT v (by simp [Op.operands])
    unfold rowP at hr
    simp only [Option.some.injEq, Prod.mk.injEq] at hr
    obtain ⟨rfl, rfl⟩ := hr
    refine fin (s := Instr.box e (a.eval v)) (mk_ptr (P := P) (t := e) (c := (a.eval v).cells) hH hid hn (V.cells ?_) ?_) (by simp [execOp, hop])
    · intro u hu
      rw [hu] at h1
      simpa [AV.cells, allOne_cons, allOne_nil, AV.one] using h1
    · simp [Instr.box, newVar_run]
  case buildSlice t len parts =>
    unfold rowS at hr
    split at hr
    · rename_i s cs' hb
      cases hr
      unfold buildSliceD at hb
      split at hb
      · rename_i e hu
        split at hb
        · rename_i s' z hro
          obtain ⟨hs, hs0, hzl, zv, hzr, hzs, hzl2⟩ := rowOf_some hro
          by_cases hle : Nat.ble (len * s') 16777216 = true
          · rw [hle, cond_true] at hb
            rw [nble] at hle
            have hle := of_decide_eq_true hle
            split at hb
            · rename_i cs'' hp
              cases hb
              have hpp := repP_evoP (E := E) (tm := tm) (a := a) parts.toList (fun x hx => hT x.2 (by simp only [Op.operands]; simp; exact ⟨x.1, by simpa using hx⟩))
              obtain ⟨pl⟩ := parts
              have hnle : ¬ (len * s > 2 ^ 24) := by simpa using hle
              by_cases h0 : len = 0
              · subst h0
                have hz : z = [] := List.eq_nil_of_length_eq_zero (by rw [hzl]; simp)
                subst hz
                have r0 : Array.range 0 = #[] := rfl
                obtain ⟨out, h2, h3⟩ := placeParts_sound (E := E) (zs := #[]) hpp RepL.nil hp
                refine fin (s := Instr.buildSlice t 0 ((⟨pl⟩ : Array (Nat × Operand)).map fun x => (x.1, a.eval x.2))) (mk_slice (P := P) (t := e) hH hid hn h3 (Nat.le_refl 0) ?_) (by simp [execOp, hop])
                have h2' : Instr.fill (fun i => some (i * s, s)) #[] (pl.map fun x => (x.1, a.eval x.2)) = some out := h2
                simp [Instr.buildSlice, run_und hu, run_sz hs, h2', newRow_run, r0]
              · have hne : ¬ (len * s = 0) := by
                  intro h; rcases Nat.mul_eq_zero.1 h with h | h
                  · exact h0 h
                  · exact hs0 h
                obtain ⟨out, h2, h3⟩ := placeParts_sound (zs := (Array.range (len * s)).map (fun i => zv.cells[i % zv.cells.size]!)) hpp (hzl2 E) hp
                refine fin (s := Instr.buildSlice t len ((⟨pl⟩ : Array (Nat × Operand)).map fun x => (x.1, a.eval x.2))) (mk_slice (P := P) (t := e) hH hid hn h3 (Nat.le_refl len) ?_) (by simp [execOp, hop])
                simp only [Instr.buildSlice, Sem.run_bind, run_und hu, run_sz hs, Result.andThen_ok, if_neg hnle, if_neg hne, hzr, Sem.run_pure]
                have h2' : Instr.fill (fun i => some (i * s, s)) ((Array.range (len * s)).map fun x => zv.cells[x % zv.cells.size]!) (pl.map fun x => (x.1, a.eval x.2)) = some out := h2
                simp [h2', newRow_run, hne, hnle, hzr]
            · cases hb
          · rw [Bool.not_eq_true] at hle
            rw [hle, cond_false] at hb; cases hb
        · cases hb
      · cases hb
    · cases hr
  case makeSlice t l c =>
    obtain ⟨li, h2, hr2⟩ := bind_some hr
    obtain ⟨ci, h3, hr3⟩ := bind_some hr2
    clear hr hr2
    have vl := hT l (by simp [Op.operands])
    have vc := hT c (by simp [Op.operands])
    obtain ⟨kl, hkl⟩ := asI_some h2
    obtain ⟨kc, hkc⟩ := asI_some h3
    rw [hkl] at vl; rw [hkc] at vc
    simp only [RepV] at vl vc
    unfold rowM at hr3
    split at hr3
    · rename_i s l0 c0 cs' hb
      cases hr3
      unfold makeSliceD at hb
      split at hb
      · rename_i e hu
        split at hb
        · rename_i b hbb
          cases ci with
          | negSucc m => cases hb
          | ofNat c1 =>
            simp only at hb
            obtain ⟨l1, hl1, hb⟩ := bind_some hb
            by_cases hcond : (Nat.ble (b * c1) 140737488355328 && Nat.ble c1 140737488355328) = true
            · rw [hcond, cond_true] at hb
              simp only [Bool.and_eq_true, nble, decide_eq_true_eq] at hcond
              split at hb
              · rename_i s' cs'' hro
                cases hb
                obtain ⟨hs, hs0, hzl, zv, hzr, hzs, hzl2⟩ := rowOf_some hro
                obtain ⟨rfl, hlc⟩ := upA_some hl1
                have hi : ∃ i, P.info? e = some i ∧ i.bytes = b := by
                  unfold bytesO at hbb
                  cases hi : P.info? e with
                  | none => simp [hi] at hbb
                  | some i => simp [hi] at hbb; exact ⟨i, rfl, hbb⟩
                obtain ⟨i, hi, rfl⟩ := hi
                refine fin (s := Instr.makeSlice t (a.eval l) (a.eval c)) (mk_slice (P := P) (t := e) (c := (Array.range (c0 * s)).map (fun i => zv.cells[i % zv.cells.size]!)) hH hid hn (hzl2 E) hlc ?_) (by simp [execOp, hop])
                rw [vl, vc]
                exact run_makeSlice hu hi hs hzr hlc hcond.1 hcond.2
              · cases hb
            · rw [Bool.not_eq_true] at hcond
              rw [hcond, cond_false] at hb; cases hb
        · cases hb
      · cases hb
    · cases hr3
  case convert s d v =>
    unfold strRow at hr
    split at hr
    · rename_i sd hs
      split at hr
      · rename_i e hd
        by_cases hu8 : isU8 (P.underlying e) = true
        · rw [hu8, cond_true] at hr
          have he := isU8_some hu8
          split at hr
          · rename_i b hv
            split at hr
            · rename_i cs' hb
              simp only [forceN_eq] at hr
              cases hr
              obtain ⟨rfl, _⟩ := bytesN_some hb
              rw [List.take_of_length_le (Nat.le_refl _)]
              rw [List.take_of_length_le (Nat.le_refl _)] at fin
              have vv := hT v (by simp [Op.operands])
              rw [hv] at vv
              simp only [RepV] at vv
              refine fin (s := convert s d (a.eval v)) ?_ (by simp [execOp, hop])
              obtain ⟨u, w', E', r1, r2⟩ := mk_bytes (P := P) hH hid hn e b
              refine ⟨u, w', E', ?_, r2⟩
              rw [vv]
              unfold convert
              simp only [Sem.run_bind, run_und hs, run_und hd, Result.andThen_ok]
              cases sd <;> simp only [Sem.run_bind, run_und he, Result.andThen_ok] <;> exact r1
            · cases hr
          · cases hr
        · rw [Bool.not_eq_true] at hu8
          rw [hu8, cond_false] at hr; cases hr
      · cases hr
    · cases hr
  all_goals cases hr

end Go.Proofs.YtckcgijepiejlaaGreat.Ae
