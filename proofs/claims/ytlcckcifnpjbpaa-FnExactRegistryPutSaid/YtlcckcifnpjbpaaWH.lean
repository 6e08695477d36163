/- The walks' texts, together. -/
import Derived.Test.YtlcckcifnpjbpaaWE0
import Derived.Test.YtlcckcifnpjbpaaWE1
import Derived.Test.YtlcckcifnpjbpaaWE2
import Derived.Test.YtlcckcifnpjbpaaWE3
