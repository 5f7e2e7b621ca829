/- The clock's functions, printed: group R. -/
import Derived.Test.YtfmfikodnpnblaaDoorPClkRx
