/- The walks' texts, together. -/
import Derived.Test.YtmnhnldnnniglaaGreatWD0
import Derived.Test.YtmnhnldnnniglaaGreatWD1
import Derived.Test.YtmnhnldnnniglaaGreatWD2
import Derived.Test.YtmnhnldnnniglaaGreatWD3
