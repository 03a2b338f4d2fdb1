/- deedboxlaw2.OwnInts; the types' facts for ints and texts. -/
import Derived.Test.YtpicofkmeijioaaDoorRefInts
import Derived.Test.YtpicofkmeijioaaDoorApp
namespace Go.Proofs.YtpicofkmeijioaaDoor
open Go.RowKit

theorem elInt : ElemInfo Tryd.prog 68 3 1 8 := elemInfo_of Tryd.underlying68 (z := .int .i64 0) (by kernel_rfl) rfl (by decide)

end Go.Proofs.YtpicofkmeijioaaDoor
