/- The walks' texts, together. -/
import Derived.Test.YtmnhnldnnniglaaWD0
import Derived.Test.YtmnhnldnnniglaaWD1
import Derived.Test.YtmnhnldnnniglaaWD2
import Derived.Test.YtmnhnldnnniglaaWD3
