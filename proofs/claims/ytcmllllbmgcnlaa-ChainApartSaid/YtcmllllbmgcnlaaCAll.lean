/- All of them. -/
import Derived.Test.YtcmllllbmgcnlaaC1
import Derived.Test.YtcmllllbmgcnlaaC2
