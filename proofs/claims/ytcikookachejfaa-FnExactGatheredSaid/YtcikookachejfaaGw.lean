/-
  Builders of texts. Conditions: none.
-/
import Derived.Test.YtcikookachejfaaGa
import Derived.Test.YtcikookachejfaaSxZ
import Derived.Lib.Builder
import Derived.Lib.Walk
import Derived.Lib.Strings
import Derived.WalkKit
import Derived.Laws.Externs
namespace Go.Proofs.Ytcikookachejfaa
open Go.SX Go.Proofs Go.RowKit
end Go.Proofs.Ytcikookachejfaa
