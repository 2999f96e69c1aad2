/- Functions of the library,for every element's type. -/
import Derived.Test.YtpikplkdlbnffaaGreatDoorVVgEv
namespace Vg
open Go Lg
set_option linter.unusedSimpArgs false
set_option maxRecDepth 10000
attribute [local congr] bind_congr1

end Vg
