/- Rows in a block that is written. -/
import Derived.Test.YtpikplkdlbnffaaGreatDoorVVgTop
namespace Vg
open Go Lg
variable {es i j d : Nat} {rows : List (List VV)} {row vs : List VV}
end Vg
