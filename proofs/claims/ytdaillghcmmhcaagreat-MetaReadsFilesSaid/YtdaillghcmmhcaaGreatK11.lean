/- META: the law's own closed run. -/
import Derived.Test.YtdaillghcmmhcaaGreatK10
set_option linter.unusedSimpArgs false
set_option linter.unusedVariables false
open Go Go.Ag
namespace Go.Proofs.Th
set_option maxRecDepth 100000 in
theorem m10 : en 10 [] [] = some (.ret (.v (.bool true)), []) := evW_run 60 (by kernel_rfl)
end Go.Proofs.Th
