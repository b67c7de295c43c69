/- UtfWrong, run by the evaluator at the inputs 12 to 17. -/
import Derived.Test.YtdpbghgeolhomaaDoorGl
namespace Go.Proofs.YtdpbghgeolhomaaDoor.UtfWrong
open Go Go.Iv
theorem run12 (E : Nat → TypeId) : endsTrue ((ev Tryd.prog 60).call 6 [.int .i64 12] (startH (mkG gl E))) = true := by kernel_rfl
theorem run13 (E : Nat → TypeId) : endsTrue ((ev Tryd.prog 60).call 6 [.int .i64 13] (startH (mkG gl E))) = true := by kernel_rfl
theorem run14 (E : Nat → TypeId) : endsTrue ((ev Tryd.prog 60).call 6 [.int .i64 14] (startH (mkG gl E))) = true := by kernel_rfl
theorem run15 (E : Nat → TypeId) : endsTrue ((ev Tryd.prog 60).call 6 [.int .i64 15] (startH (mkG gl E))) = true := by kernel_rfl
theorem run16 (E : Nat → TypeId) : endsTrue ((ev Tryd.prog 60).call 6 [.int .i64 16] (startH (mkG gl E))) = true := by kernel_rfl
theorem run17 (E : Nat → TypeId) : endsTrue ((ev Tryd.prog 60).call 6 [.int .i64 17] (startH (mkG gl E))) = true := by kernel_rfl
end Go.Proofs.YtdpbghgeolhomaaDoor.UtfWrong
