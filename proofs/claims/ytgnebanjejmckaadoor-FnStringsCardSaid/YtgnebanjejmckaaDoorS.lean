/- All codes. -/
import Derived.Test.YtgnebanjejmckaaDoorS0
import Derived.Test.YtgnebanjejmckaaDoorS1
import Derived.Test.YtgnebanjejmckaaDoorS2
import Derived.Test.YtgnebanjejmckaaDoorS3
