/- The walks' texts, together. -/
import Derived.Test.YtmnhnldnnniglaaWG0
import Derived.Test.YtmnhnldnnniglaaWG1
import Derived.Test.YtmnhnldnnniglaaWG2
import Derived.Test.YtmnhnldnnniglaaWG3
