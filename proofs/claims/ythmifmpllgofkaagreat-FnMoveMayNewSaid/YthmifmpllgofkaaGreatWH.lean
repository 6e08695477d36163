/- The walks' texts, together. -/
import Derived.Test.YthmifmpllgofkaaGreatWD0
import Derived.Test.YthmifmpllgofkaaGreatWD1
import Derived.Test.YthmifmpllgofkaaGreatWD2
import Derived.Test.YthmifmpllgofkaaGreatWD3
