/- Drawn runs are small. -/
import Derived.Test.YthmifmpllgofkaaGreatP17
set_option linter.all false
namespace Go.Proofs.YthmifmpllgofkaaGreat

end Go.Proofs.YthmifmpllgofkaaGreat
