/- Draws of lists of tokens, walked. -/
import Derived.Test.YtjneodmohkpckaaGreatDoorEt
import Derived.Test.YtjneodmohkpckaaGreatDoorT12l
namespace Go.Proofs.YtjneodmohkpckaaGreatDoor
open Go.RowKit
set_option linter.unusedVariables false
set_option linter.unusedSimpArgs false
end Go.Proofs.YtjneodmohkpckaaGreatDoor
