/- The library's functions that are operations here. -/
import Derived.Test.YtpoofafddbcnpaaVE3
import Derived.Test.YtpoofafddbcnpaaVE4
