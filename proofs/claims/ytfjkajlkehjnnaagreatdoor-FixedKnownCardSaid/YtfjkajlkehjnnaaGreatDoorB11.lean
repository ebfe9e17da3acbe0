/- The laws together. -/
import Derived.Test.YtfjkajlkehjnnaaGreatDoorB10
import Derived.Test.YtfjkajlkehjnnaaGreatDoorH5
