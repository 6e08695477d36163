/- The law: what is found has the version. -/
import Derived.Test.YthmifmpllgofkaaP7
import Derived.Test.YthmifmpllgofkaaP6
set_option linter.all false
namespace Go.Proofs.Ythmifmpllgofkaa

end Go.Proofs.Ythmifmpllgofkaa
