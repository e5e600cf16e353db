/- race.Turns, timing.Halves, race.Fade. -/
import Derived.Test.YtcdoidhookghaaaDoorTurns
namespace Go.Proofs.YtcdoidhookghaaaDoor
open Go.RowKit
set_option linter.unusedVariables false

end Go.Proofs.YtcdoidhookghaaaDoor
