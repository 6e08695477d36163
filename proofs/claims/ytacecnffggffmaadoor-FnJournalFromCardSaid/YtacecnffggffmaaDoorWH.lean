/- The walks' texts, together. -/
import Derived.Test.YtacecnffggffmaaDoorWA0
import Derived.Test.YtacecnffggffmaaDoorWA1
