/- The walks' texts, together. -/
import Derived.Test.YtlcckcifnpjbpaaWC0
import Derived.Test.YtlcckcifnpjbpaaWC1
import Derived.Test.YtlcckcifnpjbpaaWC2
import Derived.Test.YtlcckcifnpjbpaaWC3
