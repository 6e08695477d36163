/- The walks' texts, together. -/
import Derived.Test.YthmifmpllgofkaaWB0
import Derived.Test.YthmifmpllgofkaaWB1
import Derived.Test.YthmifmpllgofkaaWB2
