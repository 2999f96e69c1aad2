/- The library's functions that are operations here. -/
import Derived.Test.YtpclbojoknhnlaaDoorVE5
import Derived.Test.YtpclbojoknhnlaaDoorVEJ
import Derived.Test.YtpclbojoknhnlaaDoorVE4
