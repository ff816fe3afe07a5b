/- What the row of NumAgain imports. -/
import Derived.Test.YtblpnlobicjccaaAgainWalk
import Derived.Test.YtblpnlobicjccaaArgs
