/- Facts on the loaded program that all bare rows of this seat share. -/
import Derived.Test.YtcnhjbipncledaaRows
import Derived.Test.YtcnhjbipncledaaProg
import Derived.Test.YtcnhjbipncledaaChecked
import Derived.Test.YtcnhjbipncledaaKit
namespace Go.Proofs.Ytcnhjbipncledaa
theorem own : ownKnob Try.prog.godebug = none := by kernel_rfl
theorem laidOut : laidOutB Try.prog = true := by kernel_rfl
end Go.Proofs.Ytcnhjbipncledaa
