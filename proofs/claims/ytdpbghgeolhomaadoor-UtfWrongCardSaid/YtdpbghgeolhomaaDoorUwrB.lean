/- UtfWrong, run by the evaluator at the inputs 6 to 11. -/
import Derived.Test.YtdpbghgeolhomaaDoorGl
namespace Go.Proofs.YtdpbghgeolhomaaDoor.UtfWrong
open Go Go.Iv
theorem run6 (E : Nat → TypeId) : endsTrue ((ev Tryd.prog 60).call 6 [.int .i64 6] (startH (mkG gl E))) = true := by kernel_rfl
theorem run7 (E : Nat → TypeId) : endsTrue ((ev Tryd.prog 60).call 6 [.int .i64 7] (startH (mkG gl E))) = true := by kernel_rfl
theorem run8 (E : Nat → TypeId) : endsTrue ((ev Tryd.prog 60).call 6 [.int .i64 8] (startH (mkG gl E))) = true := by kernel_rfl
theorem run9 (E : Nat → TypeId) : endsTrue ((ev Tryd.prog 60).call 6 [.int .i64 9] (startH (mkG gl E))) = true := by kernel_rfl
theorem run10 (E : Nat → TypeId) : endsTrue ((ev Tryd.prog 60).call 6 [.int .i64 10] (startH (mkG gl E))) = true := by kernel_rfl
theorem run11 (E : Nat → TypeId) : endsTrue ((ev Tryd.prog 60).call 6 [.int .i64 11] (startH (mkG gl E))) = true := by kernel_rfl
end Go.Proofs.YtdpbghgeolhomaaDoor.UtfWrong
