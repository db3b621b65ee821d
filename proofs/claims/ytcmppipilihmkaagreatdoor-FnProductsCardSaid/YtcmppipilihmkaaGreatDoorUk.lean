/- Contract: the specification's reading of words. -/
import Derived.Test.YtcmppipilihmkaaGreatDoorUj
namespace Go.Proofs.YtcmppipilihmkaaGreatDoor
open Go.RowKit Go.Sort
set_option linter.unusedSimpArgs false
set_option linter.unusedVariables false

theorem goodw_len {l : List UInt8} (h : l.length ≠ 8) : goodw l = none := by
  unfold goodw hv8
  rw [if_neg h]; rfl

end Go.Proofs.YtcmppipilihmkaaGreatDoor
