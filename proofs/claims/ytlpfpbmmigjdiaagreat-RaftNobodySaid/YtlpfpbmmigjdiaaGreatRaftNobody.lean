/-
  THE LAW RaftNobody, for every input: its arguments are handed on and not looked into; what it does is computed.
-/
import Derived.Test.YtlpfpbmmigjdiaaGreatRows
import Derived.Test.YtlpfpbmmigjdiaaGreatAeLaw
import Derived.WalkKit
import Derived.ProofKit
import Derived.OpenShut
import Derived.ChangeOld
import Derived.SizedLaws
namespace Go.Proofs.YtlpfpbmmigjdiaaGreat.raftNobody
open Go.ChangeShapes Go.WideShapes Go.ChangeAt Go.RowKit Go.Proofs.YtlpfpbmmigjdiaaGreat.Ae
set_option linter.unusedVariables false
theorem len13 {l : List Value} (h : l.length = 13) : ∃ x0 x1 x2 x3 x4 x5 x6 x7 x8 x9 x10 x11 x12, l = [x0, x1, x2, x3, x4, x5, x6, x7, x8, x9, x10, x11, x12] := by
  obtain _ | ⟨x0, l⟩ := l
  · simp at h
  obtain _ | ⟨x1, l⟩ := l
  · simp at h
  obtain _ | ⟨x2, l⟩ := l
  · simp at h
  obtain _ | ⟨x3, l⟩ := l
  · simp at h
  obtain _ | ⟨x4, l⟩ := l
  · simp at h
  obtain _ | ⟨x5, l⟩ := l
  · simp at h
  obtain _ | ⟨x6, l⟩ := l
  · simp at h
  obtain _ | ⟨x7, l⟩ := l
  · simp at h
  obtain _ | ⟨x8, l⟩ := l
  · simp at h
  obtain _ | ⟨x9, l⟩ := l
  · simp at h
  obtain _ | ⟨x10, l⟩ := l
  · simp at h
  obtain _ | ⟨x11, l⟩ := l
  · simp at h
  obtain _ | ⟨x12, l⟩ := l
  · simp at h
  obtain _ | ⟨y, l⟩ := l
  rotate_left
  · simp at h
  exact ⟨x0, x1, x2, x3, x4, x5, x6, x7, x8, x9, x10, x11, x12, rfl⟩
theorem own : ownKnob Tryz.prog.godebug = none := by kernel_rfl
theorem laidOut : laidOutB Tryz.prog = true := by kernel_rfl
theorem mixed : Tryz.prog.follows .mixedOrders = true := by kernel_rfl
theorem fok : FOk Tryz.prog (fun f => Tryz.prog.funcs[f]?) := fok_of_check Tryz.codeOk (by kernel_rfl)

/-- is a call's outcome the bool true? -/
def isTrue : Option CR → Bool
  | some (.val (.bool b) _) => b
  | _ => false
theorem isTrue_some {r : Option CR} (h : isTrue r = true) : ∃ h', r = some (.val (.bool true) h') := by
  unfold isTrue at h
  split at h
  · subst h; exact ⟨_, rfl⟩
  · cases h

/-- THE RUN, at whatever arguments. -/
theorem run (i0_0 : Int) (i0_1 : Int) (i0_2 : Int) (i0_3 : Int) (i0_4 : Int) (i0_5 : Int) (i0_6 : Int) (i0_7 : Int) (i0_8 : Int) (b0_9 : Bool) (a0_10 : Option Addr) (l0_10 : Nat) (c0_10 : Nat) (a0_11 : Option Addr) (l0_11 : Nat) (c0_11 : Nat) (s0_12 : ByteArray) (i1 : Int) (a2 : Option Addr) (l2 : Nat) (c2 : Nat) : isTrue (funA Tryz.prog (fun f => Tryz.prog.funcs[f]?) noPrim 1000000 1000 (.func 5) [.agg [.raw (Value.int .i64 i0_0), .raw (Value.int .i64 i0_1), .raw (Value.int .i64 i0_2), .raw (Value.int .i64 i0_3), .raw (Value.int .i64 i0_4), .raw (Value.int .i64 i0_5), .raw (Value.int .i64 i0_6), .raw (Value.int .i64 i0_7), .raw (Value.int .i64 i0_8), .raw (Value.bool b0_9), .raw (Value.slice a0_10 l0_10 c0_10), .raw (Value.slice a0_11 l0_11 c0_11), .raw (Value.string s0_12)], .raw (Value.int .i64 i1), .raw (Value.slice a2 l2 c2)] AH.empty) = true := by kernel_rfl

theorem walk (W : World) (i0_0 : Int) (i0_1 : Int) (i0_2 : Int) (i0_3 : Int) (i0_4 : Int) (i0_5 : Int) (i0_6 : Int) (i0_7 : Int) (i0_8 : Int) (b0_9 : Bool) (a0_10 : Option Addr) (l0_10 : Nat) (c0_10 : Nat) (a0_11 : Option Addr) (l0_11 : Nat) (c0_11 : Nat) (s0_12 : ByteArray) (i1 : Int) (a2 : Option Addr) (l2 : Nat) (c2 : Nat) : Calls Tryz.prog 5 #[(Value.agg #[(Value.int .i64 i0_0), (Value.int .i64 i0_1), (Value.int .i64 i0_2), (Value.int .i64 i0_3), (Value.int .i64 i0_4), (Value.int .i64 i0_5), (Value.int .i64 i0_6), (Value.int .i64 i0_7), (Value.int .i64 i0_8), (Value.bool b0_9), (Value.slice a0_10 l0_10 c0_10), (Value.slice a0_11 l0_11 c0_11), (Value.string s0_12)]), (Value.int .i64 i1), (Value.slice a2 l2 c2)] W fun e W' => e = .returned (.bool true) ∧ Below W.heap.size W W' := by
  obtain ⟨h', hr⟩ := isTrue_some (run i0_0 i0_1 i0_2 i0_3 i0_4 i0_5 i0_6 i0_7 i0_8 b0_9 a0_10 l0_10 c0_10 a0_11 l0_11 c0_11 s0_12 i1 a2 l2 c2)
  exact calls_of_eval fok mixed noPrim_sound (E0 := ⟨fun _ => none, fun _ => none⟩) Tryz.func5 rfl (fun _ => rfl) (fun _ _ h => by cases h) (RepL.cons (by simp only [RepV]; exact ⟨_, rfl, repL_raw _ [(Value.int .i64 i0_0), (Value.int .i64 i0_1), (Value.int .i64 i0_2), (Value.int .i64 i0_3), (Value.int .i64 i0_4), (Value.int .i64 i0_5), (Value.int .i64 i0_6), (Value.int .i64 i0_7), (Value.int .i64 i0_8), (Value.bool b0_9), (Value.slice a0_10 l0_10 c0_10), (Value.slice a0_11 l0_11 c0_11), (Value.string s0_12)]⟩) (RepL.cons (repV_raw _ _) (RepL.cons (repV_raw _ _) (RepL.nil)))) hr

set_option maxRecDepth 100000 in
theorem lifted (os : Os) (started : os.Started) (H : Type) (enc : TypeId × Value → H) :
    ReturnsInHanded {} Tryz.checked os 5 .any (Rows.raftNobodySpec.pre6 enc Tryz.prog Tryz.f5 Rows.raftNobodyRow.domain false) (Rows.raftNobodySpec.post enc Tryz.prog Tryz.f5 false true false false) := by
  refine returnsInHanded_of_change_sized (C := Tryz.checked) own started (by kernel_rfl) Tryz.func5
    (ChangeSpec.witness6 (enc := enc) (C := Tryz.checked) false ⟨#[], #[(((Tryz.prog.info? 52).bind (·.zero)).getD (.bool false)), (((Tryz.prog.info? 3).bind (·.zero)).getD (.bool false)), (((Tryz.prog.info? 50).bind (·.zero)).getD (.bool false))], []⟩ 8 (by kernel_rfl) (by kernel_rfl) (by kernel_rfl) (by kernel_rfl)) ?_
  intro W base args ds gs before hval0 hW hcnd hsz0 _
  have hval : ∀ (j : Nat) t v, Tryz.f5.params[j]? = some t → args[j]? = some v → Value.okWide Tryz.prog W .any base t v := hval0
  have hW' := hW
  obtain ⟨p, q, hA0, hV, rfl, hfz, hnd⟩ := hW
  have hA : DataW.TrodAll enc Tryz.prog W 0 (fun _ => true) true Tryz.f5.params.toList args.toList ds p := hA0
  rw [Tryz.params5] at hA hval
  have hAll := hA
  obtain ⟨v0, vs0, d0, ds0, p0, q0, hargs, rfl, rfl, h0, r0⟩ := trodAll_cons hA
  obtain ⟨v1, vs1, d1, ds1, p1, q1, rfl, rfl, rfl, h1, r1⟩ := trodAll_cons r0
  obtain ⟨v2, vs2, d2, ds2, p2, q2, rfl, rfl, rfl, h2, r2⟩ := trodAll_cons r1
  obtain ⟨rfl, rfl, rfl⟩ := trodAll_nil r2
  obtain rfl : args = #[v0, v1, v2] := by cases args; simp_all
  obtain ⟨rfl, rfl⟩ := trodVars_none hV
  obtain ⟨cs0, rfl, hn0, hc0⟩ := struct_cells ⟨_, Tryz.underlying52, rfl⟩ (ts := [3, 3, 3, 3, 3, 3, 3, 3, 3, 4, 34, 50, 9]) (by kernel_rfl) (by kernel_rfl) (hval 0 52 v0 rfl rfl)
  obtain ⟨x0_0, x0_1, x0_2, x0_3, x0_4, x0_5, x0_6, x0_7, x0_8, x0_9, x0_10, x0_11, x0_12, rfl⟩ := len13 hn0
  obtain ⟨i0_0, rfl⟩ := cell_int Tryz.underlying3 (hc0 0 _ _ rfl rfl)
  obtain ⟨i0_1, rfl⟩ := cell_int Tryz.underlying3 (hc0 1 _ _ rfl rfl)
  obtain ⟨i0_2, rfl⟩ := cell_int Tryz.underlying3 (hc0 2 _ _ rfl rfl)
  obtain ⟨i0_3, rfl⟩ := cell_int Tryz.underlying3 (hc0 3 _ _ rfl rfl)
  obtain ⟨i0_4, rfl⟩ := cell_int Tryz.underlying3 (hc0 4 _ _ rfl rfl)
  obtain ⟨i0_5, rfl⟩ := cell_int Tryz.underlying3 (hc0 5 _ _ rfl rfl)
  obtain ⟨i0_6, rfl⟩ := cell_int Tryz.underlying3 (hc0 6 _ _ rfl rfl)
  obtain ⟨i0_7, rfl⟩ := cell_int Tryz.underlying3 (hc0 7 _ _ rfl rfl)
  obtain ⟨i0_8, rfl⟩ := cell_int Tryz.underlying3 (hc0 8 _ _ rfl rfl)
  obtain ⟨b0_9, rfl⟩ := cell_bool Tryz.underlying4 (hc0 9 _ _ rfl rfl)
  obtain ⟨a0_10, l0_10, c0_10, rfl⟩ := cell_slice Tryz.underlying34 (hc0 10 _ _ rfl rfl)
  obtain ⟨a0_11, l0_11, c0_11, rfl⟩ := cell_slice Tryz.underlying50 (hc0 11 _ _ rfl rfl)
  obtain ⟨s0_12, rfl⟩ := cell_string Tryz.underlying9 (hc0 12 _ _ rfl rfl)
  obtain ⟨i1, rfl⟩ := cell_int Tryz.underlying3 (hval 1 3 v1 rfl rfl)
  obtain ⟨a2, l2, c2, rfl⟩ := cell_slice Tryz.underlying50 (hval 2 50 v2 rfl rfl)
  clear hA0 hval0 hsz0
  refine (walk W i0_0 i0_1 i0_2 i0_3 i0_4 i0_5 i0_6 i0_7 i0_8 b0_9 a0_10 l0_10 c0_10 a0_11 l0_11 c0_11 s0_12 i1 a2 l2 c2).mono fun e W' ⟨he, bel⟩ => ?_
  subst he
  exact ⟨_, rfl, _, _, _, [], _, [], hW', trodAll_mk1 (shut_bool Tryz.underlying4 _), trodAll_below laidOut bel [52, 3, 50] _ _ _ (by intro t ht; simp at ht; rcases ht with rfl | rfl | rfl <;> exact ⟨by kernel_rfl, of_decide_eq_true (by kernel_rfl)⟩) hAll, rfl, bel.frame _, fun h => by cases h⟩
theorem over : Rows.raftNobodyRow.holds Tryz.pinned (OpenSpec.ofChange Rows.raftNobodySpec) :=
  OpenClaim.holds_of_wide 5 Tryz.f5 rfl rfl rfl rfl rfl rfl rfl ⟨rfl, rfl, rfl, rfl, rfl⟩ rfl rfl rfl rfl rfl (by kernel_rfl) Tryz.func5 (by kernel_rfl)
    (of_decide_eq_true (by kernel_rfl)) (by unfold Func.isWrapper; first | (rw [if_pos (by decide +kernel)]; kernel_rfl) | (rw [if_neg (by decide +kernel)]; exact ⟨rfl, rfl⟩))
    (fun os started H enc _ => lifted os started H enc)
theorem proved : Rows.RaftNobodySaid := over
#print axioms proved
end Go.Proofs.YtlpfpbmmigjdiaaGreat.raftNobody
namespace Go.Proofs.YtlpfpbmmigjdiaaGreat
/-- The row, under a short name, for the claim. -/
theorem raftNobody_holds : Rows.RaftNobodySaid := raftNobody.proved
end Go.Proofs.YtlpfpbmmigjdiaaGreat

