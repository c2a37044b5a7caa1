/-
  HelloReads' walk and the opening of its arguments, together. No condition.
-/
import Derived.Test.YtegmimnhkohaoaaYLawHD
import Derived.Test.YtegmimnhkohaoaaZg11

