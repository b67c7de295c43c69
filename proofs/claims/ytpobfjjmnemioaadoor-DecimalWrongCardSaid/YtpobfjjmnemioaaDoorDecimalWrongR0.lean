/- DecimalWrong, run by the evaluator at some inputs. -/
import Derived.Test.YtpobfjjmnemioaaDoorDecimalWrongG
namespace Go.Proofs.YtpobfjjmnemioaaDoor.DecimalWrong
open Go Go.Iv
theorem run0 (E : Nat → TypeId) : endsTrue ((evF Tryd.prog hint 60).call 7 [.int .i64 0] (startH (mkG gl E))) = true := by kernel_rfl
theorem run1 (E : Nat → TypeId) : endsTrue ((evF Tryd.prog hint 60).call 7 [.int .i64 1] (startH (mkG gl E))) = true := by kernel_rfl
theorem run2 (E : Nat → TypeId) : endsTrue ((evF Tryd.prog hint 60).call 7 [.int .i64 2] (startH (mkG gl E))) = true := by kernel_rfl
theorem run3 (E : Nat → TypeId) : endsTrue ((evF Tryd.prog hint 60).call 7 [.int .i64 3] (startH (mkG gl E))) = true := by kernel_rfl
theorem run4 (E : Nat → TypeId) : endsTrue ((evF Tryd.prog hint 60).call 7 [.int .i64 4] (startH (mkG gl E))) = true := by kernel_rfl
theorem run5 (E : Nat → TypeId) : endsTrue ((evF Tryd.prog hint 60).call 7 [.int .i64 5] (startH (mkG gl E))) = true := by kernel_rfl
theorem run6 (E : Nat → TypeId) : endsTrue ((evF Tryd.prog hint 60).call 7 [.int .i64 6] (startH (mkG gl E))) = true := by kernel_rfl
theorem run7 (E : Nat → TypeId) : endsTrue ((evF Tryd.prog hint 60).call 7 [.int .i64 7] (startH (mkG gl E))) = true := by kernel_rfl
theorem run8 (E : Nat → TypeId) : endsTrue ((evF Tryd.prog hint 60).call 7 [.int .i64 8] (startH (mkG gl E))) = true := by kernel_rfl
end Go.Proofs.YtpobfjjmnemioaaDoor.DecimalWrong
