/- The walks' texts, together. -/
import Derived.Test.YthlhkinkcbamgaaWC0
import Derived.Test.YthlhkinkcbamgaaWC1
import Derived.Test.YthlhkinkcbamgaaWC2
import Derived.Test.YthlhkinkcbamgaaWC3
