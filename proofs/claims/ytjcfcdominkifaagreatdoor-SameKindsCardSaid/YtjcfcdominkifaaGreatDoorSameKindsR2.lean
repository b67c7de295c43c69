/- SameKinds, run by the evaluator at some inputs. -/
import Derived.Test.YtjcfcdominkifaaGreatDoorSameKindsG
namespace Go.Proofs.YtjcfcdominkifaaGreatDoor.SameKinds
open Go Go.Iv
theorem run10 (E : Nat → TypeId) : endsTrue ((evF Tryz.prog hint 100).call 3 [.int .i64 10] (startH (mkG gl E))) = true := by kernel_rfl
theorem run11 (E : Nat → TypeId) : endsTrue ((evF Tryz.prog hint 100).call 3 [.int .i64 11] (startH (mkG gl E))) = true := by kernel_rfl
theorem run12 (E : Nat → TypeId) : endsTrue ((evF Tryz.prog hint 100).call 3 [.int .i64 12] (startH (mkG gl E))) = true := by kernel_rfl
theorem run13 (E : Nat → TypeId) : endsTrue ((evF Tryz.prog hint 100).call 3 [.int .i64 13] (startH (mkG gl E))) = true := by kernel_rfl
theorem run14 (E : Nat → TypeId) : endsTrue ((evF Tryz.prog hint 100).call 3 [.int .i64 14] (startH (mkG gl E))) = true := by kernel_rfl
end Go.Proofs.YtjcfcdominkifaaGreatDoor.SameKinds
