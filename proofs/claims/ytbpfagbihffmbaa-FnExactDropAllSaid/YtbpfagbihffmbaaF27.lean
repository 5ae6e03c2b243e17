/- Contracts, 27: slices.Insert of one element. (Printed by gen27.py.) -/
import Derived.Test.YtbpfagbihffmbaaF26
import Derived.Shelf.Spec.SlicesInsertGrow
import Derived.Lib.AppendZeros
import Derived.Lib.Overlaps
namespace Go.Proofs
open Go.Shelf Go.RowKit Go.TM Go.Lib
set_option linter.unusedVariables false
set_option linter.unusedSimpArgs false

end Go.Proofs
namespace Go.TM
open Go.Proofs Go.RowKit Go.Shelf
set_option linter.unusedVariables false
set_option linter.unusedSimpArgs false
set_option maxRecDepth 100000

end Go.TM

