/- The run of ReplyAnew with more than six draws, over all paths at once. -/
import Derived.Test.YtdalcnjdpfnjjaaGreatDoorKn
namespace Go.Proofs.YtdalcnjdpfnjjaaGreatDoor
open Go Go.Ev
set_option maxRecDepth 100000
theorem rep7 : lawQ S3 400 4 [v32 0, v32 1, .sl 3 0 (.var 99) 1 false] (repH [v32 10, v32 11, v32 12, v32 13, v32 14, v32 15]) (thRep [(.var 99, 7, 1125899906842624)]) [] = true := by kernel_rfl
end Go.Proofs.YtdalcnjdpfnjjaaGreatDoor
