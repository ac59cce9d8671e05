/- Nothing of this is called here. -/
import Derived.Sort.Walk0
import Derived.Test.YtgpddngbccecfaaDoorProg
