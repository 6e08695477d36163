/- Drawn runs are small. -/
import Derived.Test.YthmifmpllgofkaaP17
set_option linter.all false
namespace Go.Proofs.Ythmifmpllgofkaa

end Go.Proofs.Ythmifmpllgofkaa
