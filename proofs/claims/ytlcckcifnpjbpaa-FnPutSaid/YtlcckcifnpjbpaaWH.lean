/- The walks' texts, together. -/
import Derived.Test.YtlcckcifnpjbpaaWB0
import Derived.Test.YtlcckcifnpjbpaaWB1
