/- SameKinds, run by the evaluator at some inputs. -/
import Derived.Test.YtjcfcdominkifaaGreatDoorSameKindsG
namespace Go.Proofs.YtjcfcdominkifaaGreatDoor.SameKinds
open Go Go.Iv
theorem run5 (E : Nat → TypeId) : endsTrue ((evF Tryz.prog hint 100).call 3 [.int .i64 5] (startH (mkG gl E))) = true := by kernel_rfl
theorem run6 (E : Nat → TypeId) : endsTrue ((evF Tryz.prog hint 100).call 3 [.int .i64 6] (startH (mkG gl E))) = true := by kernel_rfl
theorem run7 (E : Nat → TypeId) : endsTrue ((evF Tryz.prog hint 100).call 3 [.int .i64 7] (startH (mkG gl E))) = true := by kernel_rfl
theorem run8 (E : Nat → TypeId) : endsTrue ((evF Tryz.prog hint 100).call 3 [.int .i64 8] (startH (mkG gl E))) = true := by kernel_rfl
theorem run9 (E : Nat → TypeId) : endsTrue ((evF Tryz.prog hint 100).call 3 [.int .i64 9] (startH (mkG gl E))) = true := by kernel_rfl
end Go.Proofs.YtjcfcdominkifaaGreatDoor.SameKinds
