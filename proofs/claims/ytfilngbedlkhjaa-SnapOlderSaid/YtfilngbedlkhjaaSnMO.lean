/-
  The walk of SnapOlder beside how its State reads. No condition.
-/
import Derived.Test.YtfilngbedlkhjaaSnM
import Derived.Test.YtfilngbedlkhjaaOpenSt
