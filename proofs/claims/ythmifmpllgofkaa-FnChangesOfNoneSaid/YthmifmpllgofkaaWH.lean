/- The walks' texts, together. -/
import Derived.Test.YthmifmpllgofkaaWQ0
import Derived.Test.YthmifmpllgofkaaWQ1
import Derived.Test.YthmifmpllgofkaaWQ2
