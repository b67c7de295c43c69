/- UtfWrong, run by the evaluator at the inputs 0 to 5. -/
import Derived.Test.YtdpbghgeolhomaaDoorGl
namespace Go.Proofs.YtdpbghgeolhomaaDoor.UtfWrong
open Go Go.Iv
theorem run0 (E : Nat → TypeId) : endsTrue ((ev Tryd.prog 60).call 6 [.int .i64 0] (startH (mkG gl E))) = true := by kernel_rfl
theorem run1 (E : Nat → TypeId) : endsTrue ((ev Tryd.prog 60).call 6 [.int .i64 1] (startH (mkG gl E))) = true := by kernel_rfl
theorem run2 (E : Nat → TypeId) : endsTrue ((ev Tryd.prog 60).call 6 [.int .i64 2] (startH (mkG gl E))) = true := by kernel_rfl
theorem run3 (E : Nat → TypeId) : endsTrue ((ev Tryd.prog 60).call 6 [.int .i64 3] (startH (mkG gl E))) = true := by kernel_rfl
theorem run4 (E : Nat → TypeId) : endsTrue ((ev Tryd.prog 60).call 6 [.int .i64 4] (startH (mkG gl E))) = true := by kernel_rfl
theorem run5 (E : Nat → TypeId) : endsTrue ((ev Tryd.prog 60).call 6 [.int .i64 5] (startH (mkG gl E))) = true := by kernel_rfl
end Go.Proofs.YtdpbghgeolhomaaDoor.UtfWrong
