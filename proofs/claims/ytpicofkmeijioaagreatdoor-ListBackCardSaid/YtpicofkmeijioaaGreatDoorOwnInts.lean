/- deedboxlaw2.OwnInts; the types' facts for ints and texts. -/
import Derived.Test.YtpicofkmeijioaaGreatDoorRefInts
import Derived.Test.YtpicofkmeijioaaGreatDoorApp
namespace Go.Proofs.YtpicofkmeijioaaGreatDoor
open Go.RowKit

theorem elInt : ElemInfo Tryz.prog 33 3 1 8 := elemInfo_of Tryz.underlying33 (z := .int .i64 0) (by kernel_rfl) rfl (by decide)
theorem elStr : ElemInfo Tryz.prog 24 9 1 16 := elemInfo_of Tryz.underlying24 (z := .string ByteArray.empty) (by kernel_rfl) rfl (by decide)

end Go.Proofs.YtpicofkmeijioaaGreatDoor
