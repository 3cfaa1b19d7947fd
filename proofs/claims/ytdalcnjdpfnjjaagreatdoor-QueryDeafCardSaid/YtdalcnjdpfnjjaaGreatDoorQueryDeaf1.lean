/- The run of QueryDeaf with one slot, with six, over all paths at once. -/
import Derived.Test.YtdalcnjdpfnjjaaGreatDoorKn
namespace Go.Proofs.YtdalcnjdpfnjjaaGreatDoor
open Go Go.Ev
set_option maxRecDepth 100000
theorem deaf0 (an : Bool) : lawQ S4 2000 3 [xaS an, .int .i64 (.var 7), .int .i64 (.var 8)] sglob (thDeaf 0 9223372036854775809) [] = true := by kernel_rfl
theorem deaf1 (an : Bool) : lawQ S4 2000 3 [xaS an, .int .i64 (.var 7), .int .i64 (.var 8)] sglob (thDeaf 1 9223372036854775814) [] = true := by kernel_rfl
end Go.Proofs.YtdalcnjdpfnjjaaGreatDoor
