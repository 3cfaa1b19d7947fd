/- The run of ReplyAnew with five draws, over all paths at once. -/
import Derived.Test.YtdalcnjdpfnjjaaGreatDoorKn
namespace Go.Proofs.YtdalcnjdpfnjjaaGreatDoor
open Go Go.Ev
set_option maxRecDepth 100000
theorem rep5 : lawQ S3 400 4 [v32 0, v32 1, .sl 3 0 (.lit 5) 1 false] (repH [v32 10, v32 11, v32 12, v32 13, v32 14]) (thRep []) [] = true := by kernel_rfl
end Go.Proofs.YtdalcnjdpfnjjaaGreatDoor
