/-
  FROM WHAT THE EVALUATOR TELLS OF A CALL TO WHAT THE MACHINE DOES AT A LAW: it returns that bool, and nothing that was there has turned.
-/
import Derived.Test.YtckcgijepiejlaaGreatAeCall
import Derived.Below
import Derived.Carry
import Derived.ChangeShapes
namespace Go.Proofs.YtckcgijepiejlaaGreat.Ae
open Go Go.RowKit
set_option linter.unusedVariables false
set_option linter.unusedSimpArgs false
set_option linter.unnecessarySimpa false

/-- no calls are told otherwise -/
def noPrim : CallF := fun _ _ _ => none
theorem noPrim_sound {P : Program} : CallSound P noPrim := by
  intro f args h r hr; cases hr

/-- the functions of the program, as it was checked -/
theorem fok_of_check {P : Program} (h : P.check = .ok ()) (hn : P.funcs.toList.all (fun fn => fn.name != "runtime.NumGoroutine") = true) : FOk P (fun f => P.funcs[f]?) := by
  intro f fn hf
  refine ⟨hf, ?_, fun c hc => good_of_check h hf hc⟩
  have hm : fn ∈ P.funcs.toList := by
    have := Array.mem_of_getElem? hf
    simpa using this
  have := List.all_eq_true.1 hn fn hm
  simpa using this

theorem empty_get (id : Nat) : AH.empty.get id = none := Tr.get_leaf id

theorem calls_of_eval {P : Program} {F : Nat → Option Func} (hFn : FOk P F) (hmix : P.follows .mixedOrders = true) {prim : CallF} (hprim : CallSound P prim) {lf n : Nat} {f : FuncId} {fn : Func} (hF : F f = some fn) (hb : fn.body.isSome = true)
    {avs : List AV} {args : Array Value} {W : World} {E0 : Env} (hids : ∀ i, E0.ids i = none) (hfro : ∀ b c, E0.fro b = some c → ∃ t z, W.heap[b]? = some (.cells c t z)) (hl : RepL E0 avs args.toList)
    {b : Bool} {h' : AH} (hev : funA P F prim lf n (.func f) avs AH.empty = some (.val (.bool b) h')) :
    Calls P f args W fun e W' => e = .returned (.bool b) ∧ Below W.heap.size W W' := by
  have hH : RepH P E0 AH.empty.get W := ⟨fun id r h => (by rw [empty_get] at h; cases h), fun i j r s e f h => (by rw [empty_get] at h; cases h), hfro⟩
  have post : ∀ e w', CRok P (fun id => AH.empty.next ≤ id) E0 AH.empty W (.val (.bool b) h') e w' → e = .returned (.bool b) ∧ Below W.heap.size W w' := by
    rintro e w' ⟨u, E', rfl, hu, hp⟩
    simp only [RepV] at hu
    subst hu
    refine ⟨rfl, hp.fr.os, hp.fr.tape, hp.fr.output, hp.fr.size, fun k hk => hp.fr.block k hk fun id r e h => ?_⟩
    rw [empty_get] at h; cases h
  obtain ⟨hf, hname, hgood⟩ := hFn f fn hF
  obtain ⟨c, hc⟩ := Option.isSome_iff_exists.1 hb
  have hinv : (invoke (.fn (.func f) #[]) args).run P W = .ok (.enter f args) W := by
    simp only [invoke, Array.append_empty]
    exact callFunc_run hf hname hc _ _
  rcases funA_sound hFn hmix hprim n (.func f) avs AH.empty _ hev E0 W args (.func f) rfl hl hH (fun id _ => hids id) with ⟨g, gs, h1, h2⟩ | ⟨v, w', h1, h2⟩ | ⟨l, g, tmps, as, bd, h1, h2⟩
  · rw [hinv] at h1
    cases h1
    exact h2.mono post
  · rw [hinv] at h1; cases h1
  · rw [hinv] at h1; cases h1

/-- each argument reads behind the call as it did -/
theorem trodAll_below {H : Type} {enc : TypeId × Value → H} {P : Program} (hlaid : laidOutB P = true) {W W' : World} (hb : Below W.heap.size W W') : ∀ (ts : List TypeId) (vs : List Value) (ds : List (DataW H)) (ps : List MemPlace),
    (∀ t ∈ ts, P.readableRec t = true ∧ t < P.types.size) → DataW.TrodAll enc P W 0 (fun _ => true) true ts vs ds ps → DataW.TrodAll enc P W' 0 (fun b => decide (b < W.heap.size)) true ts vs ds ps
  | [], [], [], ps, _, h => h
  | t :: ts, v :: vs, d :: ds, ps, hr, h => by
    obtain ⟨p, q, h1, h2, h3⟩ := h
    have hlt : ∀ x ∈ p, x.block < W.heap.size := by
      obtain ⟨m, hm⟩ := h1
      exact DataW.trod_lt m _ _ _ hm
    exact ⟨p, q, Below.trod hlaid (hr t (by simp)).1 (hr t (by simp)).2 h1 hb hlt, trodAll_below hlaid hb ts vs ds q (fun t' ht' => hr t' (by simp [ht'])) h2, h3⟩
  | [], _ :: _, _, _, _, h => by cases h
  | [], [], _ :: _, _, _, h => by cases h
  | _ :: _, [], _, _, _, h => by cases h
  | _ :: _, _ :: _, [], _, _, h => by cases h

/-! ### a value that is handed on and not looked into -/
theorem repV_raw (E : Env) (v : Value) : RepV E (.raw v) v := by simp only [RepV]
theorem repL_raw (E : Env) : ∀ vs : List Value, RepL E (vs.map .raw) vs
  | [] => RepL.nil
  | v :: vs => RepL.cons (repV_raw E v) (repL_raw E vs)

/-! ### what shapes arguments have -/
section shapes
variable {P : Program} {w : World} {r : Reach} {base : Nat} {t : TypeId} {v : Value}
theorem cell_int {k : IntKind} (hu : P.underlying t = some (.int k)) (h : Cell.okWide P w r base t v) : ∃ n, v = .int k n := by
  cases v <;> simp [Cell.okWide, Cell.ok, hu] at h
  exact ⟨_, by rw [h.1]⟩
theorem cell_bool (hu : P.underlying t = some .bool) (h : Cell.okWide P w r base t v) : ∃ b, v = .bool b := by
  cases v <;> simp [Cell.okWide, Cell.ok, hu] at h
  exact ⟨_, rfl⟩
theorem cell_string (hu : P.underlying t = some .string) (h : Cell.okWide P w r base t v) : ∃ s, v = .string s := by
  cases v <;> simp [Cell.okWide, Cell.ok, hu] at h
  exact ⟨_, rfl⟩
theorem cell_slice {e : TypeId} (hu : P.underlying t = some (.slice e)) (h : Cell.okWide P w r base t v) : ∃ a l c, v = .slice a l c := by
  cases v <;> simp [Cell.okWide, Cell.ok, hu] at h
  exact ⟨_, _, _, rfl⟩

/-- a value of a struct's type: so many cells, each of its type -/
theorem struct_cells {ts : List TypeId} (hu : ∃ d, P.underlying t = some d ∧ d.isRow = true) (hts : P.cellTypes P.depth t = some ts) (hn : P.cellsOf t = ts.length) (h : Value.okWide P w r base t v) :
    ∃ cs : List Value, v = .agg cs.toArray ∧ cs.length = ts.length ∧ ∀ (i : Nat) (v' : Value) (u : TypeId), cs[i]? = some v' → ts[i]? = some u → Cell.okWide P w r base u v' := by
  obtain ⟨d, hd, hrow⟩ := hu
  have h' : ∃ cs, v = .agg cs ∧ cs.size = P.cellsOf t ∧ Row.okWide P w r base t cs := by
    unfold Value.okWide at h
    rw [hd] at h
    cases d <;> first | exact h | cases hrow
  obtain ⟨cs, rfl, hsz, ts', hts', _, hc⟩ := h'
  rw [hts] at hts'; cases hts'
  refine ⟨cs.toList, by simp, by simpa using hsz.trans hn, fun i v' u hi hu => ?_⟩
  have hlt : i < ts.length := (List.getElem?_eq_some_iff.1 hu).1
  obtain ⟨u', h1, h2⟩ := hc i v' (by simpa using hi)
  rw [Nat.mod_eq_of_lt hlt, hu] at h1
  cases h1; exact h2
end shapes

end Go.Proofs.YtckcgijepiejlaaGreat.Ae
