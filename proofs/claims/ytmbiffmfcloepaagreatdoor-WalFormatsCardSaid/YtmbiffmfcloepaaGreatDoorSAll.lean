/- All words. -/
import Derived.Test.YtmbiffmfcloepaaGreatDoorS0
import Derived.Test.YtmbiffmfcloepaaGreatDoorS1
