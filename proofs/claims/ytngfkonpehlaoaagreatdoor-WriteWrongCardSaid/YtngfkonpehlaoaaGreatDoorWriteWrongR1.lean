/- WriteWrong, run by the evaluator at some inputs. -/
import Derived.Test.YtngfkonpehlaoaaGreatDoorWriteWrongG
namespace Go.Proofs.YtngfkonpehlaoaaGreatDoor.WriteWrong
open Go Go.Iv
theorem run6 (E : Nat → TypeId) : endsTrue ((evF Tryz.prog hint (trueSpec 4) 200).call 3 [.int .i64 6] (startH (mkG gl E))) = true := by kernel_rfl
theorem run7 (E : Nat → TypeId) : endsTrue ((evF Tryz.prog hint (trueSpec 4) 200).call 3 [.int .i64 7] (startH (mkG gl E))) = true := by kernel_rfl
theorem run8 (E : Nat → TypeId) : endsTrue ((evF Tryz.prog hint (trueSpec 4) 200).call 3 [.int .i64 8] (startH (mkG gl E))) = true := by kernel_rfl
theorem run9 (E : Nat → TypeId) : endsTrue ((evF Tryz.prog hint (trueSpec 4) 200).call 3 [.int .i64 9] (startH (mkG gl E))) = true := by kernel_rfl
theorem run10 (E : Nat → TypeId) : endsTrue ((evF Tryz.prog hint (trueSpec 4) 200).call 3 [.int .i64 10] (startH (mkG gl E))) = true := by kernel_rfl
theorem run11 (E : Nat → TypeId) : endsTrue ((evF Tryz.prog hint (trueSpec 4) 200).call 3 [.int .i64 11] (startH (mkG gl E))) = true := by kernel_rfl
end Go.Proofs.YtngfkonpehlaoaaGreatDoor.WriteWrong
