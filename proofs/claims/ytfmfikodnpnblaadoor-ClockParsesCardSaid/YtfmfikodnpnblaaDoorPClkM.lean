/- The clock's functions, printed: group M. -/
import Derived.Test.YtfmfikodnpnblaaDoorPClkMx
