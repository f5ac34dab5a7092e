/- All conditions. -/
import Derived.Test.YtacjnpahlbibhaaDoorVc0
import Derived.Test.YtacjnpahlbibhaaDoorVc1
