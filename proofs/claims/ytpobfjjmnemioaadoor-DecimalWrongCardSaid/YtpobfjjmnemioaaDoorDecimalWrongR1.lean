/- DecimalWrong, run by the evaluator at some inputs. -/
import Derived.Test.YtpobfjjmnemioaaDoorDecimalWrongG
namespace Go.Proofs.YtpobfjjmnemioaaDoor.DecimalWrong
open Go Go.Iv
theorem run9 (E : Nat → TypeId) : endsTrue ((evF Tryd.prog hint 60).call 7 [.int .i64 9] (startH (mkG gl E))) = true := by kernel_rfl
theorem run10 (E : Nat → TypeId) : endsTrue ((evF Tryd.prog hint 60).call 7 [.int .i64 10] (startH (mkG gl E))) = true := by kernel_rfl
theorem run11 (E : Nat → TypeId) : endsTrue ((evF Tryd.prog hint 60).call 7 [.int .i64 11] (startH (mkG gl E))) = true := by kernel_rfl
theorem run12 (E : Nat → TypeId) : endsTrue ((evF Tryd.prog hint 60).call 7 [.int .i64 12] (startH (mkG gl E))) = true := by kernel_rfl
theorem run13 (E : Nat → TypeId) : endsTrue ((evF Tryd.prog hint 60).call 7 [.int .i64 13] (startH (mkG gl E))) = true := by kernel_rfl
theorem run14 (E : Nat → TypeId) : endsTrue ((evF Tryd.prog hint 60).call 7 [.int .i64 14] (startH (mkG gl E))) = true := by kernel_rfl
theorem run15 (E : Nat → TypeId) : endsTrue ((evF Tryd.prog hint 60).call 7 [.int .i64 15] (startH (mkG gl E))) = true := by kernel_rfl
theorem run16 (E : Nat → TypeId) : endsTrue ((evF Tryd.prog hint 60).call 7 [.int .i64 16] (startH (mkG gl E))) = true := by kernel_rfl
theorem run17 (E : Nat → TypeId) : endsTrue ((evF Tryd.prog hint 60).call 7 [.int .i64 17] (startH (mkG gl E))) = true := by kernel_rfl
end Go.Proofs.YtpobfjjmnemioaaDoor.DecimalWrong
