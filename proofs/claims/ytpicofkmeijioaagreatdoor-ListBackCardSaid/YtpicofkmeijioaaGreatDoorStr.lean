/- Texts as lists of bytes: how the walk's forms are brought to them. -/
import Derived.Test.YtpicofkmeijioaaGreatDoorNums
import Derived.Lib.ItoaLen
namespace Go.Proofs.YtpicofkmeijioaaGreatDoor
open Go.RowKit

theorem itoa_len (n : Int) (h0 : -9223372036854775808 ≤ n) (h1 : n ≤ 9223372036854775807) : (Lib.itoa n).length ≤ 21 := Lib.itoa_length_le n h0 h1
end Go.Proofs.YtpicofkmeijioaaGreatDoor
