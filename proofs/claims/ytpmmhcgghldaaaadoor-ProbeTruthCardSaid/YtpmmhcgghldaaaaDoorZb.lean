/- Closing: with the last two laws. -/
import Derived.Test.YtpmmhcgghldaaaaDoorZa
import Derived.Test.YtpmmhcgghldaaaaDoorR6
