/- The clock's functions, printed: group B. -/
import Derived.Test.YtfmfikodnpnblaaDoorPClkBx
