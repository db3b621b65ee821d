/- Contract: a text cut at any mark. -/
import Derived.Test.YtcmppipilihmkaaGreatDoorUd
namespace Go.Proofs.YtcmppipilihmkaaGreatDoor
open Go.RowKit Go.Sort
set_option linter.unusedSimpArgs false

end Go.Proofs.YtcmppipilihmkaaGreatDoor
