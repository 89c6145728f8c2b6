/- GroupsOf and TurnedGroups of both. -/
import Derived.Test.YtahgjfmdafhedaaSchJ
namespace Go.Proofs.Ytahgjfmdafhedaa
open Go.RowKit Mat
set_option linter.unusedVariables false

end Go.Proofs.Ytahgjfmdafhedaa
