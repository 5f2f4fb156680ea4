/- All of them. -/
import Derived.Test.YtdecgknnbegobaaD1
import Derived.Test.YtdecgknnbegobaaD2
import Derived.Test.YtdecgknnbegobaaD3
