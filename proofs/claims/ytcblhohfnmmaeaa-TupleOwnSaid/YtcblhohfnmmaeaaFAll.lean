/- All of them. -/
import Derived.Test.YtcblhohfnmmaeaaF1
import Derived.Test.YtcblhohfnmmaeaaF2
import Derived.Test.YtcblhohfnmmaeaaF3
import Derived.Test.YtcblhohfnmmaeaaF4
import Derived.Test.YtcblhohfnmmaeaaF5
import Derived.Test.YtcblhohfnmmaeaaF6
