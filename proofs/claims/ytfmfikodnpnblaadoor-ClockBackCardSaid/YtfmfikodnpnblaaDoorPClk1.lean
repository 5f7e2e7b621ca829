/- The clock's functions, printed: all of them. -/
import Derived.Test.YtfmfikodnpnblaaDoorPClk1x
