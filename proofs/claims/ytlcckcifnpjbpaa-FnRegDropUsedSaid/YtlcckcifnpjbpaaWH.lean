/- The walks' texts, together. -/
import Derived.Test.YtlcckcifnpjbpaaWG0
import Derived.Test.YtlcckcifnpjbpaaWG1
