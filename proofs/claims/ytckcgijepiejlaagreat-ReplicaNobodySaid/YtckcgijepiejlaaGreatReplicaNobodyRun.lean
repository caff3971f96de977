/-
  THE RUN of the law ReplicaNobody, whatever its arguments.
-/
import Derived.Test.YtckcgijepiejlaaGreatProg
import Derived.Test.YtckcgijepiejlaaGreatAeLaw
import Derived.Test.YtckcgijepiejlaaGreatAeMemo
namespace Go.Proofs.YtckcgijepiejlaaGreat.replicaNobody
open Go Go.Proofs.YtckcgijepiejlaaGreat.Ae
set_option linter.unusedVariables false

/-- is a call's outcome the bool true? -/
def isTrue : Option CR → Bool
  | some (.val (.bool b) _) => b
  | _ => false
theorem isTrue_some {r : Option CR} (h : isTrue r = true) : ∃ h', r = some (.val (.bool true) h') := by
  unfold isTrue at h
  split at h
  · subst h; exact ⟨_, rfl⟩
  · cases h

/-- THE RUN, at whatever arguments. -/
theorem run (i0_0 : Int) (i0_1 : Int) (i0_2 : Int) (i0_3 : Int) (i0_4 : Int) (i0_5 : Int) (i0_6 : Int) (i0_7 : Int) (i0_8 : Int) (b0_9 : Bool) (a0_10 : Option Addr) (l0_10 : Nat) (c0_10 : Nat) (a0_11 : Option Addr) (l0_11 : Nat) (c0_11 : Nat) (s0_12 : ByteArray) (i1_0 : Int) (i1_1 : Int) (i1_2 : Int) (i1_3 : Int) (i1_4 : Int) (a1_5 : Option Addr) (l1_5 : Nat) (c1_5 : Nat) (s1_6 : ByteArray) (s1_7 : ByteArray) (i1_8 : Int) (i1_9 : Int) (i1_10 : Int) (a1_11 : Option Addr) (l1_11 : Nat) (c1_11 : Nat) (i2 : Int) : isTrue (funA Tryz.prog FF primM 1000000 1000 (.func 4) [.agg [.raw (Value.int .i64 i0_0), .raw (Value.int .i64 i0_1), .raw (Value.int .i64 i0_2), .raw (Value.int .i64 i0_3), .raw (Value.int .i64 i0_4), .raw (Value.int .i64 i0_5), .raw (Value.int .i64 i0_6), .raw (Value.int .i64 i0_7), .raw (Value.int .i64 i0_8), .raw (Value.bool b0_9), .raw (Value.slice a0_10 l0_10 c0_10), .raw (Value.slice a0_11 l0_11 c0_11), .raw (Value.string s0_12)], .agg [.raw (Value.int .i64 i1_0), .raw (Value.int .i64 i1_1), .raw (Value.int .i64 i1_2), .raw (Value.int .i64 i1_3), .raw (Value.int .i64 i1_4), .raw (Value.slice a1_5 l1_5 c1_5), .raw (Value.string s1_6), .raw (Value.string s1_7), .raw (Value.int .i64 i1_8), .raw (Value.int .i64 i1_9), .raw (Value.int .i64 i1_10), .raw (Value.slice a1_11 l1_11 c1_11)], .raw (Value.int .i64 i2)] AH.empty) = true := by kernel_rfl

end Go.Proofs.YtckcgijepiejlaaGreat.replicaNobody
