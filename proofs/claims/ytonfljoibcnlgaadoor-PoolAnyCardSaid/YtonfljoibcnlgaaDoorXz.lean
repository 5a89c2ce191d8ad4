/-
  The printed texts, all of them.
-/
import Derived.Test.YtonfljoibcnlgaaDoorXb2
