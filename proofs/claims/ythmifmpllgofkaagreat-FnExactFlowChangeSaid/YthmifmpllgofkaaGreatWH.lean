/- The walks' texts, together. -/
import Derived.Test.YthmifmpllgofkaaGreatWC0
import Derived.Test.YthmifmpllgofkaaGreatWC1
import Derived.Test.YthmifmpllgofkaaGreatWC2
