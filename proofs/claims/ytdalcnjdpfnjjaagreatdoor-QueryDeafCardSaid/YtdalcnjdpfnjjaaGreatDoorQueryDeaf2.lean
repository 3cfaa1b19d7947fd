/- The run of QueryDeaf with eight slots, over all paths at once. -/
import Derived.Test.YtdalcnjdpfnjjaaGreatDoorKn
namespace Go.Proofs.YtdalcnjdpfnjjaaGreatDoor
open Go Go.Ev
set_option maxRecDepth 100000
theorem deaf2 (an : Bool) : lawQ S4 2000 3 [xaS an, .int .i64 (.var 7), .int .i64 (.var 8)] sglob (thDeaf 2 9223372036854775816) [] = true := by kernel_rfl
end Go.Proofs.YtdalcnjdpfnjjaaGreatDoor
