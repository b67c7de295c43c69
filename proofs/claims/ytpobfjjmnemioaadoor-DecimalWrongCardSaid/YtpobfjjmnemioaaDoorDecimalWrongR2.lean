/- DecimalWrong, run by the evaluator at some inputs. -/
import Derived.Test.YtpobfjjmnemioaaDoorDecimalWrongG
namespace Go.Proofs.YtpobfjjmnemioaaDoor.DecimalWrong
open Go Go.Iv
theorem run18 (E : Nat → TypeId) : endsTrue ((evF Tryd.prog hint 60).call 7 [.int .i64 18] (startH (mkG gl E))) = true := by kernel_rfl
theorem run19 (E : Nat → TypeId) : endsTrue ((evF Tryd.prog hint 60).call 7 [.int .i64 19] (startH (mkG gl E))) = true := by kernel_rfl
theorem run20 (E : Nat → TypeId) : endsTrue ((evF Tryd.prog hint 60).call 7 [.int .i64 20] (startH (mkG gl E))) = true := by kernel_rfl
theorem run21 (E : Nat → TypeId) : endsTrue ((evF Tryd.prog hint 60).call 7 [.int .i64 21] (startH (mkG gl E))) = true := by kernel_rfl
theorem run22 (E : Nat → TypeId) : endsTrue ((evF Tryd.prog hint 60).call 7 [.int .i64 22] (startH (mkG gl E))) = true := by kernel_rfl
theorem run23 (E : Nat → TypeId) : endsTrue ((evF Tryd.prog hint 60).call 7 [.int .i64 23] (startH (mkG gl E))) = true := by kernel_rfl
theorem run24 (E : Nat → TypeId) : endsTrue ((evF Tryd.prog hint 60).call 7 [.int .i64 24] (startH (mkG gl E))) = true := by kernel_rfl
theorem run25 (E : Nat → TypeId) : endsTrue ((evF Tryd.prog hint 60).call 7 [.int .i64 25] (startH (mkG gl E))) = true := by kernel_rfl
theorem run26 (E : Nat → TypeId) : endsTrue ((evF Tryd.prog hint 60).call 7 [.int .i64 26] (startH (mkG gl E))) = true := by kernel_rfl
end Go.Proofs.YtpobfjjmnemioaaDoor.DecimalWrong
