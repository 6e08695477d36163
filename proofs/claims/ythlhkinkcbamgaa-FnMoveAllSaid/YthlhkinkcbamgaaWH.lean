/- The walks' texts, together. -/
import Derived.Test.YthlhkinkcbamgaaWB0
import Derived.Test.YthlhkinkcbamgaaWB1
import Derived.Test.YthlhkinkcbamgaaWB2
import Derived.Test.YthlhkinkcbamgaaWB3
