/- Drawn changes, and flows that are drawn by changing another. -/
import Derived.Test.YthmifmpllgofkaaP14
set_option linter.all false
namespace Go.Proofs.Ythmifmpllgofkaa

end Go.Proofs.Ythmifmpllgofkaa
