/- The law: what is found has the version. -/
import Derived.Test.YthlhkinkcbamgaaP7
import Derived.Test.YthlhkinkcbamgaaP6
set_option linter.all false
namespace Go.Proofs.Ythlhkinkcbamgaa

end Go.Proofs.Ythlhkinkcbamgaa
