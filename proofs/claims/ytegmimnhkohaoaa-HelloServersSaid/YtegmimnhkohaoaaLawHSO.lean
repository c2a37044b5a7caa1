/-
  HelloServers' walk and the opening of its argument, together. No condition.
-/
import Derived.Test.YtegmimnhkohaoaaLawHS
import Derived.Test.YtegmimnhkohaoaaOpenSv
