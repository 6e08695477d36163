/- Drawn runs are small. -/
import Derived.Test.YtmnhnldnnniglaaP17
set_option linter.all false
namespace Go.Proofs.Ytmnhnldnnniglaa

end Go.Proofs.Ytmnhnldnnniglaa
