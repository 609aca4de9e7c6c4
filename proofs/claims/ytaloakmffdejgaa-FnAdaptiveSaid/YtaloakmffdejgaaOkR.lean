/- Whether records are valid, by a name. -/
import Derived.Test.YtaloakmffdejgaaGrD
namespace Go.Proofs.Ytaloakmffdejgaa
def okRs (rs : List (Int × Int)) : Bool := decide (rs.length ≤ 64) && rs.all okR
end Go.Proofs.Ytaloakmffdejgaa
