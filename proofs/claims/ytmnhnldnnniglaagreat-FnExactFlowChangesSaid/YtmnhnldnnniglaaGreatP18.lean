/- Drawn runs are small. -/
import Derived.Test.YtmnhnldnnniglaaGreatP17
set_option linter.all false
namespace Go.Proofs.YtmnhnldnnniglaaGreat

end Go.Proofs.YtmnhnldnnniglaaGreat
