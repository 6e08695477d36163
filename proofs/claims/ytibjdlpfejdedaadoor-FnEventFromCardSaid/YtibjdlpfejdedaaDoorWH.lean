/- The walks' texts, together. -/
import Derived.Test.YtibjdlpfejdedaaDoorWA0
