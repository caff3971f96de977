/-
  CLOSED CALLS THAT ARE COMPUTED APART, each by a run of its own; and the program's functions as a tree.
-/
import Derived.Test.YtckcgijepiejlaaGreatAeSha
namespace Go.Proofs.YtckcgijepiejlaaGreat.Ae
open Go
set_option linter.unusedVariables false
set_option linter.unusedSimpArgs false
set_option maxRecDepth 100000
noncomputable section

def FT : Tr Func := Tr.ofListFrom 0 Tryz.prog.funcs.toList .leaf
def FF : Nat → Option Func := fun f => FT.get f
theorem ff_eq : FF = F0 := by
  funext f
  show Tr.get (Tr.ofListFrom 0 Tryz.prog.funcs.toList .leaf) f = Tryz.prog.funcs[f]?
  rw [Tr.get_ofListFrom]
  by_cases h : f < Tryz.prog.funcs.toList.length
  · rw [if_pos ⟨Nat.zero_le _, by omega⟩, Nat.sub_zero]; simp
  · rw [if_neg (by omega), Tr.get_leaf]
    have : Tryz.prog.funcs.size ≤ f := by simpa using h
    rw [Array.getElem?_eq_none this]

def valOf : Option CR → Option AV
  | some (.val v _) => some v
  | _ => none
theorem valOf_some {r : Option CR} {v : AV} (h : valOf r = some v) : ∃ h', r = some (.val v h') := by
  unfold valOf at h
  split at h
  · cases h; exact ⟨_, rfl⟩
  · cases h

/- bailey sha.Block -/
def m0args : List AV := [.agg [.int .u32 (.ofNat 1779033703), .int .u32 (.ofNat 3144134277), .int .u32 (.ofNat 1013904242), .int .u32 (.ofNat 2773480762), .int .u32 (.ofNat 1359893119), .int .u32 (.ofNat 2600822924), .int .u32 (.ofNat 528734635), .int .u32 (.ofNat 1541459225)], .agg [.int .u8 (.ofNat 0), .int .u8 (.ofNat 0), .int .u8 (.ofNat 0), .int .u8 (.ofNat 0), .int .u8 (.ofNat 0), .int .u8 (.ofNat 0), .int .u8 (.ofNat 0), .int .u8 (.ofNat 0), .int .u8 (.ofNat 0), .int .u8 (.ofNat 0), .int .u8 (.ofNat 0), .int .u8 (.ofNat 0), .int .u8 (.ofNat 0), .int .u8 (.ofNat 0), .int .u8 (.ofNat 0), .int .u8 (.ofNat 0), .int .u8 (.ofNat 0), .int .u8 (.ofNat 0), .int .u8 (.ofNat 0), .int .u8 (.ofNat 0), .int .u8 (.ofNat 0), .int .u8 (.ofNat 0), .int .u8 (.ofNat 0), .int .u8 (.ofNat 0), .int .u8 (.ofNat 0), .int .u8 (.ofNat 0), .int .u8 (.ofNat 0), .int .u8 (.ofNat 0), .int .u8 (.ofNat 0), .int .u8 (.ofNat 0), .int .u8 (.ofNat 0), .int .u8 (.ofNat 0), .int .u8 (.ofNat 0), .int .u8 (.ofNat 0), .int .u8 (.ofNat 1), .int .u8 (.ofNat 9), .int .u8 (.ofNat 1), .int .u8 (.ofNat 0), .int .u8 (.ofNat 0), .int .u8 (.ofNat 0), .int .u8 (.ofNat 0), .int .u8 (.ofNat 0), .int .u8 (.ofNat 0), .int .u8 (.ofNat 0), .int .u8 (.ofNat 0), .int .u8 (.ofNat 128), .int .u8 (.ofNat 0), .int .u8 (.ofNat 0), .int .u8 (.ofNat 0), .int .u8 (.ofNat 0), .int .u8 (.ofNat 0), .int .u8 (.ofNat 0), .int .u8 (.ofNat 0), .int .u8 (.ofNat 0), .int .u8 (.ofNat 0), .int .u8 (.ofNat 0), .int .u8 (.ofNat 0), .int .u8 (.ofNat 0), .int .u8 (.ofNat 0), .int .u8 (.ofNat 0), .int .u8 (.ofNat 0), .int .u8 (.ofNat 0), .int .u8 (.ofNat 1), .int .u8 (.ofNat 104)]]
def m0res : AV := .agg [.int .u32 (.ofNat 3232874755), .int .u32 (.ofNat 2121519093), .int .u32 (.ofNat 782798457), .int .u32 (.ofNat 490634975), .int .u32 (.ofNat 2689247714), .int .u32 (.ofNat 4142298354), .int .u32 (.ofNat 3385274566), .int .u32 (.ofNat 3372862319)]
theorem m0_run : valOf (funA Tryz.prog FF prim 1000000 1000 (.func 561) m0args AH.empty) = some m0res := by kernel_rfl
theorem m0_clo : CloL m0args ∧ Clo m0res := by
  simp only [m0args, m0res, Clo, CloL, and_self]

/- bailey peers.Match -/
def m1args : List AV := [.int .i64 (.ofNat 1), .agg [.int .i64 (.ofNat 1), .int .i64 (.ofNat 0), .int .i64 (.ofNat 0), .int .i64 (.ofNat 0), .int .i64 (.ofNat 0), .int .i64 (.ofNat 0), .int .i64 (.ofNat 0)]]
def m1res : AV := .int .i64 (.ofNat 1)
theorem m1_run : valOf (funA Tryz.prog FF prim 1000000 1000 (.func 253) m1args AH.empty) = some m1res := by kernel_rfl
theorem m1_clo : CloL m1args ∧ Clo m1res := by
  simp only [m1args, m1res, Clo, CloL, and_self]

/- bailey peers.Match -/
def m2args : List AV := [.int .i64 (.ofNat 1), .agg [.int .i64 (.ofNat 2), .int .i64 (.ofNat 0), .int .i64 (.ofNat 0), .int .i64 (.ofNat 0), .int .i64 (.ofNat 0), .int .i64 (.ofNat 0), .int .i64 (.ofNat 0)]]
def m2res : AV := .int .i64 (.ofNat 2)
theorem m2_run : valOf (funA Tryz.prog FF prim 1000000 1000 (.func 253) m2args AH.empty) = some m2res := by kernel_rfl
theorem m2_clo : CloL m2args ∧ Clo m2res := by
  simp only [m2args, m2res, Clo, CloL, and_self]

/- bailey machine.Check -/
def m3args : List AV := [.agg [.int .i64 (.ofNat 1), .int .i64 (.ofNat 0), .int .i64 (.ofNat 0), .nils, .int .i64 (.ofNat 10), .int .i64 (.ofNat 0), .int .i64 (.ofNat 0), .int .i64 (.ofNat 1), .nils, .nils, .int .i64 (.ofNat 0), .int .i64 (.ofNat 2), .nils, .int .i64 (.ofNat 0), .str [0, 0, 0, 0, 0, 0, 0, 0, 0, 0, 0, 0, 0, 0, 0, 0, 0, 0, 0, 0, 0, 0, 0, 0, 0, 0, 0, 0, 0, 0, 0, 0], .int .i64 (.ofNat 0), .int .i64 (.ofNat 10), .nils, .nils]]
def m3res : AV := .bool true
theorem m3_run : valOf (funA Tryz.prog FF prim 1000000 1000 (.func 92) m3args AH.empty) = some m3res := by kernel_rfl
theorem m3_clo : CloL m3args ∧ Clo m3res := by
  simp only [m3args, m3res, Clo, CloL, and_self]

/- bailey record.Check -/
def m4args : List AV := [.agg [.int .i64 (.ofNat 2), .int .i64 (.ofNat 0), .int .i64 (.ofNat 0), .int .i64 (.ofNat 0), .int .i64 (.ofNat 0), .int .i64 (.ofNat 0), .nils, .int .i64 (.ofNat 0), .int .i64 (.ofNat 0), .nils]]
def m4res : AV := .int .i64 (.ofNat 0)
theorem m4_run : valOf (funA Tryz.prog FF prim 1000000 1000 (.func 360) m4args AH.empty) = some m4res := by kernel_rfl
theorem m4_clo : CloL m4args ∧ Clo m4res := by
  simp only [m4args, m4res, Clo, CloL, and_self]

/- bailey record.Check -/
def m5args : List AV := [.agg [.int .i64 (.ofNat 2), .int .i64 (.ofNat 1), .int .i64 (.ofNat 1), .int .i64 (.ofNat 0), .int .i64 (.ofNat 0), .int .i64 (.ofNat 0), .nils, .int .i64 (.ofNat 0), .int .i64 (.ofNat 0), .nils]]
def m5res : AV := .int .i64 (.ofNat 0)
theorem m5_run : valOf (funA Tryz.prog FF prim 1000000 1000 (.func 360) m5args AH.empty) = some m5res := by kernel_rfl
theorem m5_clo : CloL m5args ∧ Clo m5res := by
  simp only [m5args, m5res, Clo, CloL, and_self]

/- bailey record.Check -/
def m6args : List AV := [.agg [.int .i64 (.ofNat 3), .int .i64 (.ofNat 0), .int .i64 (.ofNat 0), .int .i64 (.ofNat 1), .int .i64 (.ofNat 1), .int .i64 (.ofNat 0), .nils, .int .i64 (.ofNat 0), .int .i64 (.ofNat 0), .nils]]
def m6res : AV := .int .i64 (.ofNat 0)
theorem m6_run : valOf (funA Tryz.prog FF prim 1000000 1000 (.func 360) m6args AH.empty) = some m6res := by kernel_rfl
theorem m6_clo : CloL m6args ∧ Clo m6res := by
  simp only [m6args, m6res, Clo, CloL, and_self]

def memoAt (ok : Bool) (res : AV) (h : AH) (k : Option CR) : Option CR := bif ok then some (.val res h) else k
def primM : CallF := fun f args h =>
  match f with
  | .func g =>
    bif Nat.beq g 92 then memoAt (eqL eqV args m3args) m3res h (none)
    else bif Nat.beq g 253 then memoAt (eqL eqV args m1args) m1res h (memoAt (eqL eqV args m2args) m2res h (none))
    else bif Nat.beq g 360 then memoAt (eqL eqV args m4args) m4res h (memoAt (eqL eqV args m5args) m5res h (memoAt (eqL eqV args m6args) m6res h (none)))
    else bif Nat.beq g 561 then memoAt (eqL eqV args m0args) m0res h (none)
    else shaPrim g args h
  | _ => none

section sound
variable (hFn : FOk Tryz.prog F0) (hmix : Tryz.prog.follows .mixedOrders = true)
include hFn hmix in
theorem memo_at {g : Nat} {args lits : List AV} {res : AV} {h : AH} {r : CR} {k : Option CR} (hrun : valOf (funA Tryz.prog FF prim 1000000 1000 (.func g) lits AH.empty) = some res) (hc : CloL lits ∧ Clo res) (hk : k = some r → Sound Tryz.prog (.func g) args h r) (hr : memoAt (eqL eqV args lits) res h k = some r) : Sound Tryz.prog (.func g) args h r := by
  unfold memoAt at hr
  cases he : eqL eqV args lits with
  | false => rw [he, cond_false] at hr; exact hk hr
  | true =>
    rw [he, cond_true] at hr
    cases hr
    have := eqL_eq (fun _ _ => eqV_eq) he
    subst this
    obtain ⟨h', hv⟩ := valOf_some hrun
    rw [ff_eq] at hv
    exact pure_sound (CallSound.at (funA_sound hFn hmix (prim_sound hFn hmix) 1000) hv) hc.1 (.clo hc.2) h

include hFn hmix in
theorem primM_sound : CallSound Tryz.prog primM := by
  refine CallSound.of fun f args h r hr => ?_
  unfold primM at hr
  split at hr
  case h_2 => cases hr
  rename_i g
  simp only [nbeq, Bool.cond_decide] at hr
  split at hr
  · rename_i hg; subst hg
    exact (fun hr => memo_at hFn hmix m3_run m3_clo (fun hr => (by cases hr)) hr) hr
  · skip
    split at hr
    · rename_i hg; subst hg
      exact (fun hr => memo_at hFn hmix m1_run m1_clo (fun hr => memo_at hFn hmix m2_run m2_clo (fun hr => (by cases hr)) hr) hr) hr
    · skip
      split at hr
      · rename_i hg; subst hg
        exact (fun hr => memo_at hFn hmix m4_run m4_clo (fun hr => memo_at hFn hmix m5_run m5_clo (fun hr => memo_at hFn hmix m6_run m6_clo (fun hr => (by cases hr)) hr) hr) hr) hr
      · skip
        split at hr
        · rename_i hg; subst hg
          exact (fun hr => memo_at hFn hmix m0_run m0_clo (fun hr => (by cases hr)) hr) hr
        · skip
          exact shaPrim_sound hFn hmix hr
end sound
end
end Go.Proofs.YtckcgijepiejlaaGreat.Ae
