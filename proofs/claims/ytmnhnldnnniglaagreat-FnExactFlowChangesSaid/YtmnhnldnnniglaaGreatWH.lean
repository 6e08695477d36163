/- The walks' texts, together. -/
import Derived.Test.YtmnhnldnnniglaaGreatWC0
import Derived.Test.YtmnhnldnnniglaaGreatWC1
import Derived.Test.YtmnhnldnnniglaaGreatWC2
