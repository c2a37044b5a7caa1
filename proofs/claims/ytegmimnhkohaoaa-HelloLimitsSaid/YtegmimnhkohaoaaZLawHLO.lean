/-
  HelloLimits' walk. No condition.
-/
import Derived.Test.YtegmimnhkohaoaaZLawHL

