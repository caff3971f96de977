/-
  THE LAW ReplicaNobody, for every input: its arguments are handed on and not looked into; what it does is computed.
-/
import Derived.Test.YtckcgijepiejlaaGreatRows
import Derived.Test.YtckcgijepiejlaaGreatAeLaw
import Derived.Test.YtckcgijepiejlaaGreatReplicaNobodyRun
import Derived.Test.YtckcgijepiejlaaGreatReplicaNobodyFacts
import Derived.Test.YtckcgijepiejlaaGreatAeMemo
import Derived.WalkKit
import Derived.ProofKit
import Derived.OpenShut
import Derived.ChangeOld
import Derived.SizedLaws
namespace Go.Proofs.YtckcgijepiejlaaGreat.replicaNobody
open Go.ChangeShapes Go.WideShapes Go.ChangeAt Go.RowKit Go.Proofs.YtckcgijepiejlaaGreat.Ae
set_option linter.unusedVariables false
theorem len12 {l : List Value} (h : l.length = 12) : ∃ x0 x1 x2 x3 x4 x5 x6 x7 x8 x9 x10 x11, l = [x0, x1, x2, x3, x4, x5, x6, x7, x8, x9, x10, x11] := by
  obtain _ | ⟨x0, l⟩ := l
  · simp at h
  obtain _ | ⟨x1, l⟩ := l
  · simp at h
  obtain _ | ⟨x2, l⟩ := l
  · simp at h
  obtain _ | ⟨x3, l⟩ := l
  · simp at h
  obtain _ | ⟨x4, l⟩ := l
  · simp at h
  obtain _ | ⟨x5, l⟩ := l
  · simp at h
  obtain _ | ⟨x6, l⟩ := l
  · simp at h
  obtain _ | ⟨x7, l⟩ := l
  · simp at h
  obtain _ | ⟨x8, l⟩ := l
  · simp at h
  obtain _ | ⟨x9, l⟩ := l
  · simp at h
  obtain _ | ⟨x10, l⟩ := l
  · simp at h
  obtain _ | ⟨x11, l⟩ := l
  · simp at h
  obtain _ | ⟨y, l⟩ := l
  rotate_left
  · simp at h
  exact ⟨x0, x1, x2, x3, x4, x5, x6, x7, x8, x9, x10, x11, rfl⟩
theorem len13 {l : List Value} (h : l.length = 13) : ∃ x0 x1 x2 x3 x4 x5 x6 x7 x8 x9 x10 x11 x12, l = [x0, x1, x2, x3, x4, x5, x6, x7, x8, x9, x10, x11, x12] := by
  obtain _ | ⟨x0, l⟩ := l
  · simp at h
  obtain _ | ⟨x1, l⟩ := l
  · simp at h
  obtain _ | ⟨x2, l⟩ := l
  · simp at h
  obtain _ | ⟨x3, l⟩ := l
  · simp at h
  obtain _ | ⟨x4, l⟩ := l
  · simp at h
  obtain _ | ⟨x5, l⟩ := l
  · simp at h
  obtain _ | ⟨x6, l⟩ := l
  · simp at h
  obtain _ | ⟨x7, l⟩ := l
  · simp at h
  obtain _ | ⟨x8, l⟩ := l
  · simp at h
  obtain _ | ⟨x9, l⟩ := l
  · simp at h
  obtain _ | ⟨x10, l⟩ := l
  · simp at h
  obtain _ | ⟨x11, l⟩ := l
  · simp at h
  obtain _ | ⟨x12, l⟩ := l
  · simp at h
  obtain _ | ⟨y, l⟩ := l
  rotate_left
  · simp at h
  exact ⟨x0, x1, x2, x3, x4, x5, x6, x7, x8, x9, x10, x11, x12, rfl⟩
theorem own : ownKnob Tryz.prog.godebug = none := by kernel_rfl
theorem laidOut : laidOutB Tryz.prog = true := fact1
theorem mixed : Tryz.prog.follows .mixedOrders = true := by kernel_rfl
theorem fok : FOk Tryz.prog F0 := fok_of_check Tryz.codeOk (by kernel_rfl)

theorem walk (W : World) (i0_0 : Int) (i0_1 : Int) (i0_2 : Int) (i0_3 : Int) (i0_4 : Int) (i0_5 : Int) (i0_6 : Int) (i0_7 : Int) (i0_8 : Int) (b0_9 : Bool) (a0_10 : Option Addr) (l0_10 : Nat) (c0_10 : Nat) (a0_11 : Option Addr) (l0_11 : Nat) (c0_11 : Nat) (s0_12 : ByteArray) (i1_0 : Int) (i1_1 : Int) (i1_2 : Int) (i1_3 : Int) (i1_4 : Int) (a1_5 : Option Addr) (l1_5 : Nat) (c1_5 : Nat) (s1_6 : ByteArray) (s1_7 : ByteArray) (i1_8 : Int) (i1_9 : Int) (i1_10 : Int) (a1_11 : Option Addr) (l1_11 : Nat) (c1_11 : Nat) (i2 : Int) : Calls Tryz.prog 4 #[(Value.agg #[(Value.int .i64 i0_0), (Value.int .i64 i0_1), (Value.int .i64 i0_2), (Value.int .i64 i0_3), (Value.int .i64 i0_4), (Value.int .i64 i0_5), (Value.int .i64 i0_6), (Value.int .i64 i0_7), (Value.int .i64 i0_8), (Value.bool b0_9), (Value.slice a0_10 l0_10 c0_10), (Value.slice a0_11 l0_11 c0_11), (Value.string s0_12)]), (Value.agg #[(Value.int .i64 i1_0), (Value.int .i64 i1_1), (Value.int .i64 i1_2), (Value.int .i64 i1_3), (Value.int .i64 i1_4), (Value.slice a1_5 l1_5 c1_5), (Value.string s1_6), (Value.string s1_7), (Value.int .i64 i1_8), (Value.int .i64 i1_9), (Value.int .i64 i1_10), (Value.slice a1_11 l1_11 c1_11)]), (Value.int .i64 i2)] W fun e W' => e = .returned (.bool true) ∧ Below W.heap.size W W' := by
  obtain ⟨h', hr⟩ := isTrue_some (run i0_0 i0_1 i0_2 i0_3 i0_4 i0_5 i0_6 i0_7 i0_8 b0_9 a0_10 l0_10 c0_10 a0_11 l0_11 c0_11 s0_12 i1_0 i1_1 i1_2 i1_3 i1_4 a1_5 l1_5 c1_5 s1_6 s1_7 i1_8 i1_9 i1_10 a1_11 l1_11 c1_11 i2)
  exact calls_of_eval (by rw [ff_eq]; exact fok) mixed (primM_sound fok mixed) (E0 := ⟨fun _ => none, fun _ => none⟩) (by rw [ff_eq]; exact Tryz.func4) rfl (fun _ => rfl) (fun _ _ h => by cases h) (RepL.cons (by simp only [RepV]; exact ⟨_, rfl, repL_raw _ [(Value.int .i64 i0_0), (Value.int .i64 i0_1), (Value.int .i64 i0_2), (Value.int .i64 i0_3), (Value.int .i64 i0_4), (Value.int .i64 i0_5), (Value.int .i64 i0_6), (Value.int .i64 i0_7), (Value.int .i64 i0_8), (Value.bool b0_9), (Value.slice a0_10 l0_10 c0_10), (Value.slice a0_11 l0_11 c0_11), (Value.string s0_12)]⟩) (RepL.cons (by simp only [RepV]; exact ⟨_, rfl, repL_raw _ [(Value.int .i64 i1_0), (Value.int .i64 i1_1), (Value.int .i64 i1_2), (Value.int .i64 i1_3), (Value.int .i64 i1_4), (Value.slice a1_5 l1_5 c1_5), (Value.string s1_6), (Value.string s1_7), (Value.int .i64 i1_8), (Value.int .i64 i1_9), (Value.int .i64 i1_10), (Value.slice a1_11 l1_11 c1_11)]⟩) (RepL.cons (repV_raw _ _) (RepL.nil)))) hr

set_option maxRecDepth 100000 in
theorem lifted (os : Os) (started : os.Started) (H : Type) (enc : TypeId × Value → H) :
    ReturnsInHanded {} Tryz.checked os 4 .any (Rows.replicaNobodySpec.pre6 enc Tryz.prog Tryz.f4 Rows.replicaNobodyRow.domain false) (Rows.replicaNobodySpec.post enc Tryz.prog Tryz.f4 false true false false) := by
  refine returnsInHanded_of_change_sized (C := Tryz.checked) own started (by kernel_rfl) Tryz.func4
    (ChangeSpec.witness6 (enc := enc) (C := Tryz.checked) false ⟨#[], #[(((Tryz.prog.info? 39).bind (·.zero)).getD (.bool false)), (((Tryz.prog.info? 41).bind (·.zero)).getD (.bool false)), (((Tryz.prog.info? 3).bind (·.zero)).getD (.bool false))], []⟩ 8 (by kernel_rfl) (by kernel_rfl) (by kernel_rfl) (by kernel_rfl)) ?_
  intro W base args ds gs before hval0 hW hcnd hsz0 _
  have hval : ∀ (j : Nat) t v, Tryz.f4.params[j]? = some t → args[j]? = some v → Value.okWide Tryz.prog W .any base t v := hval0
  have hW' := hW
  obtain ⟨p, q, hA0, hV, rfl, hfz, hnd⟩ := hW
  have hA : DataW.TrodAll enc Tryz.prog W 0 (fun _ => true) true Tryz.f4.params.toList args.toList ds p := hA0
  rw [Tryz.params4] at hA hval
  have hAll := hA
  obtain ⟨v0, vs0, d0, ds0, p0, q0, hargs, rfl, rfl, h0, r0⟩ := trodAll_cons hA
  obtain ⟨v1, vs1, d1, ds1, p1, q1, rfl, rfl, rfl, h1, r1⟩ := trodAll_cons r0
  obtain ⟨v2, vs2, d2, ds2, p2, q2, rfl, rfl, rfl, h2, r2⟩ := trodAll_cons r1
  obtain ⟨rfl, rfl, rfl⟩ := trodAll_nil r2
  obtain rfl : args = #[v0, v1, v2] := by cases args; simp_all
  obtain ⟨rfl, rfl⟩ := trodVars_none hV
  obtain ⟨cs0, rfl, hn0, hc0⟩ := struct_cells ⟨_, Tryz.underlying39, rfl⟩ (ts := [3, 3, 3, 3, 3, 3, 3, 3, 3, 4, 37, 25, 9]) (by kernel_rfl) (by kernel_rfl) (hval 0 39 v0 rfl rfl)
  obtain ⟨x0_0, x0_1, x0_2, x0_3, x0_4, x0_5, x0_6, x0_7, x0_8, x0_9, x0_10, x0_11, x0_12, rfl⟩ := len13 hn0
  obtain ⟨i0_0, rfl⟩ := cell_int Tryz.underlying3 (hc0 0 _ _ rfl rfl)
  obtain ⟨i0_1, rfl⟩ := cell_int Tryz.underlying3 (hc0 1 _ _ rfl rfl)
  obtain ⟨i0_2, rfl⟩ := cell_int Tryz.underlying3 (hc0 2 _ _ rfl rfl)
  obtain ⟨i0_3, rfl⟩ := cell_int Tryz.underlying3 (hc0 3 _ _ rfl rfl)
  obtain ⟨i0_4, rfl⟩ := cell_int Tryz.underlying3 (hc0 4 _ _ rfl rfl)
  obtain ⟨i0_5, rfl⟩ := cell_int Tryz.underlying3 (hc0 5 _ _ rfl rfl)
  obtain ⟨i0_6, rfl⟩ := cell_int Tryz.underlying3 (hc0 6 _ _ rfl rfl)
  obtain ⟨i0_7, rfl⟩ := cell_int Tryz.underlying3 (hc0 7 _ _ rfl rfl)
  obtain ⟨i0_8, rfl⟩ := cell_int Tryz.underlying3 (hc0 8 _ _ rfl rfl)
  obtain ⟨b0_9, rfl⟩ := cell_bool Tryz.underlying4 (hc0 9 _ _ rfl rfl)
  obtain ⟨a0_10, l0_10, c0_10, rfl⟩ := cell_slice Tryz.underlying37 (hc0 10 _ _ rfl rfl)
  obtain ⟨a0_11, l0_11, c0_11, rfl⟩ := cell_slice Tryz.underlying25 (hc0 11 _ _ rfl rfl)
  obtain ⟨s0_12, rfl⟩ := cell_string Tryz.underlying9 (hc0 12 _ _ rfl rfl)
  obtain ⟨cs1, rfl, hn1, hc1⟩ := struct_cells ⟨_, Tryz.underlying41, rfl⟩ (ts := [3, 3, 3, 3, 3, 26, 9, 9, 3, 3, 3, 24]) (by kernel_rfl) (by kernel_rfl) (hval 1 41 v1 rfl rfl)
  obtain ⟨x1_0, x1_1, x1_2, x1_3, x1_4, x1_5, x1_6, x1_7, x1_8, x1_9, x1_10, x1_11, rfl⟩ := len12 hn1
  obtain ⟨i1_0, rfl⟩ := cell_int Tryz.underlying3 (hc1 0 _ _ rfl rfl)
  obtain ⟨i1_1, rfl⟩ := cell_int Tryz.underlying3 (hc1 1 _ _ rfl rfl)
  obtain ⟨i1_2, rfl⟩ := cell_int Tryz.underlying3 (hc1 2 _ _ rfl rfl)
  obtain ⟨i1_3, rfl⟩ := cell_int Tryz.underlying3 (hc1 3 _ _ rfl rfl)
  obtain ⟨i1_4, rfl⟩ := cell_int Tryz.underlying3 (hc1 4 _ _ rfl rfl)
  obtain ⟨a1_5, l1_5, c1_5, rfl⟩ := cell_slice Tryz.underlying26 (hc1 5 _ _ rfl rfl)
  obtain ⟨s1_6, rfl⟩ := cell_string Tryz.underlying9 (hc1 6 _ _ rfl rfl)
  obtain ⟨s1_7, rfl⟩ := cell_string Tryz.underlying9 (hc1 7 _ _ rfl rfl)
  obtain ⟨i1_8, rfl⟩ := cell_int Tryz.underlying3 (hc1 8 _ _ rfl rfl)
  obtain ⟨i1_9, rfl⟩ := cell_int Tryz.underlying3 (hc1 9 _ _ rfl rfl)
  obtain ⟨i1_10, rfl⟩ := cell_int Tryz.underlying3 (hc1 10 _ _ rfl rfl)
  obtain ⟨a1_11, l1_11, c1_11, rfl⟩ := cell_slice Tryz.underlying24 (hc1 11 _ _ rfl rfl)
  obtain ⟨i2, rfl⟩ := cell_int Tryz.underlying3 (hval 2 3 v2 rfl rfl)
  clear hA0 hval0 hsz0
  refine (walk W i0_0 i0_1 i0_2 i0_3 i0_4 i0_5 i0_6 i0_7 i0_8 b0_9 a0_10 l0_10 c0_10 a0_11 l0_11 c0_11 s0_12 i1_0 i1_1 i1_2 i1_3 i1_4 a1_5 l1_5 c1_5 s1_6 s1_7 i1_8 i1_9 i1_10 a1_11 l1_11 c1_11 i2).mono fun e W' ⟨he, bel⟩ => ?_
  subst he
  exact ⟨_, rfl, _, _, _, [], _, [], hW', trodAll_mk1 (shut_bool Tryz.underlying4 _), trodAll_below laidOut bel [39, 41, 3] _ _ _ (by intro t ht; simp at ht; rcases ht with rfl | rfl | rfl <;> exact ⟨by kernel_rfl, of_decide_eq_true (by kernel_rfl)⟩) hAll, rfl, bel.frame _, fun h => by cases h⟩
theorem over : Rows.replicaNobodyRow.holds Tryz.pinned (OpenSpec.ofChange Rows.replicaNobodySpec) :=
  OpenClaim.holds_of_wide 4 Tryz.f4 rfl rfl rfl rfl rfl rfl rfl ⟨rfl, rfl, rfl, rfl, rfl⟩ rfl rfl rfl rfl rfl named Tryz.func4 facts
    (of_decide_eq_true (by kernel_rfl)) (by unfold Func.isWrapper; first | (rw [if_pos (by decide +kernel)]; kernel_rfl) | (rw [if_neg (by decide +kernel)]; exact ⟨rfl, rfl⟩))
    (fun os started H enc _ => lifted os started H enc)
theorem proved : Rows.ReplicaNobodySaid := over
#print axioms proved
end Go.Proofs.YtckcgijepiejlaaGreat.replicaNobody
namespace Go.Proofs.YtckcgijepiejlaaGreat
/-- The row, under a short name, for the claim. -/
theorem replicaNobody_holds : Rows.ReplicaNobodySaid := replicaNobody.proved
end Go.Proofs.YtckcgijepiejlaaGreat
