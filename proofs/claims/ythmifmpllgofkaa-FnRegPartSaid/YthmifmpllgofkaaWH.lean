/- The walks' texts, together. -/
import Derived.Test.YthmifmpllgofkaaWR0
import Derived.Test.YthmifmpllgofkaaWR1
