/- what the second form of a statement needs. -/
import Derived.Test.YtbmpjphemjponaaRo
import Derived.JoinedCond
