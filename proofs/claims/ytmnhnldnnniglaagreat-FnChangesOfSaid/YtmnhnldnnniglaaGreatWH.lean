/- The walks' texts, together. -/
import Derived.Test.YtmnhnldnnniglaaGreatWE0
import Derived.Test.YtmnhnldnnniglaaGreatWE1
import Derived.Test.YtmnhnldnnniglaaGreatWE2
import Derived.Test.YtmnhnldnnniglaaGreatWE3
