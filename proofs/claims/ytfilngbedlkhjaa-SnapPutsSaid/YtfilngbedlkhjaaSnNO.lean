/-
  The walk of SnapPuts beside how its State reads. No condition.
-/
import Derived.Test.YtfilngbedlkhjaaSnN
import Derived.Test.YtfilngbedlkhjaaOpenSt
