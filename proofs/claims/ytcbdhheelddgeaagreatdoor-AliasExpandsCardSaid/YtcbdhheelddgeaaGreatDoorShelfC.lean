/- The shelf holds all here. -/
import Derived.Test.YtcbdhheelddgeaaGreatDoorShelf
