/- SameKinds, run by the evaluator at some inputs. -/
import Derived.Test.YtjcfcdominkifaaGreatDoorSameKindsG
namespace Go.Proofs.YtjcfcdominkifaaGreatDoor.SameKinds
open Go Go.Iv
theorem run15 (E : Nat → TypeId) : endsTrue ((evF Tryz.prog hint 100).call 3 [.int .i64 15] (startH (mkG gl E))) = true := by kernel_rfl
theorem run16 (E : Nat → TypeId) : endsTrue ((evF Tryz.prog hint 100).call 3 [.int .i64 16] (startH (mkG gl E))) = true := by kernel_rfl
theorem run17 (E : Nat → TypeId) : endsTrue ((evF Tryz.prog hint 100).call 3 [.int .i64 17] (startH (mkG gl E))) = true := by kernel_rfl
theorem run18 (E : Nat → TypeId) : endsTrue ((evF Tryz.prog hint 100).call 3 [.int .i64 18] (startH (mkG gl E))) = true := by kernel_rfl
theorem run19 (E : Nat → TypeId) : endsTrue ((evF Tryz.prog hint 100).call 3 [.int .i64 19] (startH (mkG gl E))) = true := by kernel_rfl
theorem big (E : Nat → TypeId) (k : Nat) : endsTrue ((evF Tryz.prog hint 100).call 3 [.int .i64 (Int.ofNat (k + 20))] (startH (mkG gl E))) = true := by kernel_rfl
theorem low (E : Nat → TypeId) (k : Nat) : endsTrue ((evF Tryz.prog hint 100).call 3 [.int .i64 (Int.negSucc k)] (startH (mkG gl E))) = true := by kernel_rfl
end Go.Proofs.YtjcfcdominkifaaGreatDoor.SameKinds
