/- DecimalWrong, run by the evaluator at some inputs. -/
import Derived.Test.YtpobfjjmnemioaaDoorDecimalWrongG
namespace Go.Proofs.YtpobfjjmnemioaaDoor.DecimalWrong
open Go Go.Iv
theorem run27 (E : Nat → TypeId) : endsTrue ((evF Tryd.prog hint 60).call 7 [.int .i64 27] (startH (mkG gl E))) = true := by kernel_rfl
theorem run28 (E : Nat → TypeId) : endsTrue ((evF Tryd.prog hint 60).call 7 [.int .i64 28] (startH (mkG gl E))) = true := by kernel_rfl
theorem run29 (E : Nat → TypeId) : endsTrue ((evF Tryd.prog hint 60).call 7 [.int .i64 29] (startH (mkG gl E))) = true := by kernel_rfl
theorem run30 (E : Nat → TypeId) : endsTrue ((evF Tryd.prog hint 60).call 7 [.int .i64 30] (startH (mkG gl E))) = true := by kernel_rfl
theorem run31 (E : Nat → TypeId) : endsTrue ((evF Tryd.prog hint 60).call 7 [.int .i64 31] (startH (mkG gl E))) = true := by kernel_rfl
theorem run32 (E : Nat → TypeId) : endsTrue ((evF Tryd.prog hint 60).call 7 [.int .i64 32] (startH (mkG gl E))) = true := by kernel_rfl
theorem run33 (E : Nat → TypeId) : endsTrue ((evF Tryd.prog hint 60).call 7 [.int .i64 33] (startH (mkG gl E))) = true := by kernel_rfl
theorem run34 (E : Nat → TypeId) : endsTrue ((evF Tryd.prog hint 60).call 7 [.int .i64 34] (startH (mkG gl E))) = true := by kernel_rfl
theorem big (E : Nat → TypeId) (k : Nat) : endsTrue ((evF Tryd.prog hint 60).call 7 [.int .i64 (Int.ofNat (k + 35))] (startH (mkG gl E))) = true := by kernel_rfl
theorem low (E : Nat → TypeId) (k : Nat) : endsTrue ((evF Tryd.prog hint 60).call 7 [.int .i64 (Int.negSucc k)] (startH (mkG gl E))) = true := by kernel_rfl
end Go.Proofs.YtpobfjjmnemioaaDoor.DecimalWrong
