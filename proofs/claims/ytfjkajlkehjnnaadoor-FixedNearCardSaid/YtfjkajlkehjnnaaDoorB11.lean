/- The laws together. -/
import Derived.Test.YtfjkajlkehjnnaaDoorB10
import Derived.Test.YtfjkajlkehjnnaaDoorH5
