/- The laws reach no function of the library that the shelf knows: nothing is laid here. -/
import Derived.Shelf.Lay
import Derived.Shelf.LaySoft
import Derived.Test.YtenjakgahniijaaProg
