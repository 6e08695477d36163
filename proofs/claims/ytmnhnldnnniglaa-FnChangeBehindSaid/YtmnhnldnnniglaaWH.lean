/- The walks' texts, together. -/
import Derived.Test.YtmnhnldnnniglaaWF0
import Derived.Test.YtmnhnldnnniglaaWF1
import Derived.Test.YtmnhnldnnniglaaWF2
