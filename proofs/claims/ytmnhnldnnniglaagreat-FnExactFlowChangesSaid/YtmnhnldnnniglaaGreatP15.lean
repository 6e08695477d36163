/- Drawn changes, and flows that are drawn by changing another. -/
import Derived.Test.YtmnhnldnnniglaaGreatP14
set_option linter.all false
namespace Go.Proofs.YtmnhnldnnniglaaGreat

end Go.Proofs.YtmnhnldnnniglaaGreat
