/- The walks' texts, together. -/
import Derived.Test.YthmifmpllgofkaaWX0
import Derived.Test.YthmifmpllgofkaaWX1
import Derived.Test.YthmifmpllgofkaaWX2
