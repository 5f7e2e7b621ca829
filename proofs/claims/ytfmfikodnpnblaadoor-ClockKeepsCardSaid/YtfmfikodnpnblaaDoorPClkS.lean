/- The clock's functions, printed: group S. -/
import Derived.Test.YtfmfikodnpnblaaDoorPClkSx
