/- All of them. -/
import Derived.Test.YtcmllllbmgcnlaaF1
import Derived.Test.YtcmllllbmgcnlaaF2
import Derived.Test.YtcmllllbmgcnlaaF3
