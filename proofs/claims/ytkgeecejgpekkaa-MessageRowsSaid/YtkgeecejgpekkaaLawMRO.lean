/-
  MessageRows' walk and the opening of its row, together. No condition.
-/
import Derived.Test.YtkgeecejgpekkaaLawMR
import Derived.Test.YtkgeecejgpekkaaOpenMsgs
