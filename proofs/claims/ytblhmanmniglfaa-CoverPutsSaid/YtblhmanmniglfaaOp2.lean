/- The last walks, and the readings of rows. -/
import Derived.Test.YtblhmanmniglfaaOp
import Derived.Test.YtblhmanmniglfaaR16
