/- Nothing of this is called here. -/
import Derived.Shelf.SlSortCmp.WholeK
import Derived.Ground.SlsfProg
import Derived.Test.YtgpddngbccecfaaDoorProg
