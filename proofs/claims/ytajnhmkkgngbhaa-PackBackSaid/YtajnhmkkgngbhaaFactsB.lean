/- Facts on the loaded program that all bare rows of this seat share. -/
import Derived.Test.YtajnhmkkgngbhaaRows
import Derived.Test.YtajnhmkkgngbhaaProg
import Derived.Test.YtajnhmkkgngbhaaChecked
import Derived.Test.YtajnhmkkgngbhaaKit
namespace Go.Proofs.Ytajnhmkkgngbhaa
theorem own : ownKnob Try.prog.godebug = none := by kernel_rfl
theorem laidOut : laidOutB Try.prog = true := by kernel_rfl
end Go.Proofs.Ytajnhmkkgngbhaa
