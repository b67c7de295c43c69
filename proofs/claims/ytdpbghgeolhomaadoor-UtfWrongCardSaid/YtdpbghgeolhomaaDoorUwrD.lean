/- UtfWrong, run by the evaluator at the inputs 18 to 22. -/
import Derived.Test.YtdpbghgeolhomaaDoorGl
namespace Go.Proofs.YtdpbghgeolhomaaDoor.UtfWrong
open Go Go.Iv
theorem run18 (E : Nat → TypeId) : endsTrue ((ev Tryd.prog 60).call 6 [.int .i64 18] (startH (mkG gl E))) = true := by kernel_rfl
theorem run19 (E : Nat → TypeId) : endsTrue ((ev Tryd.prog 60).call 6 [.int .i64 19] (startH (mkG gl E))) = true := by kernel_rfl
theorem run20 (E : Nat → TypeId) : endsTrue ((ev Tryd.prog 60).call 6 [.int .i64 20] (startH (mkG gl E))) = true := by kernel_rfl
theorem run21 (E : Nat → TypeId) : endsTrue ((ev Tryd.prog 60).call 6 [.int .i64 21] (startH (mkG gl E))) = true := by kernel_rfl
theorem run22 (E : Nat → TypeId) : endsTrue ((ev Tryd.prog 60).call 6 [.int .i64 22] (startH (mkG gl E))) = true := by kernel_rfl
theorem big (E : Nat → TypeId) (k : Nat) : endsTrue ((ev Tryd.prog 60).call 6 [.int .i64 (Int.ofNat (k + 23))] (startH (mkG gl E))) = true := by kernel_rfl
theorem low (E : Nat → TypeId) (k : Nat) : endsTrue ((ev Tryd.prog 60).call 6 [.int .i64 (Int.negSucc k)] (startH (mkG gl E))) = true := by kernel_rfl
end Go.Proofs.YtdpbghgeolhomaaDoor.UtfWrong
