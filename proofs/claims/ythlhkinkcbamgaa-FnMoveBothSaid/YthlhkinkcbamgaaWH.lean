/- The walks' texts, together. -/
import Derived.Test.YthlhkinkcbamgaaWA0
import Derived.Test.YthlhkinkcbamgaaWA1
import Derived.Test.YthlhkinkcbamgaaWA2
import Derived.Test.YthlhkinkcbamgaaWA3
