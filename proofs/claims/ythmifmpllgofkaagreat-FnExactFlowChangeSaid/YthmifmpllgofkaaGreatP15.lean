/- Drawn changes, and flows that are drawn by changing another. -/
import Derived.Test.YthmifmpllgofkaaGreatP14
set_option linter.all false
namespace Go.Proofs.YthmifmpllgofkaaGreat

end Go.Proofs.YthmifmpllgofkaaGreat
