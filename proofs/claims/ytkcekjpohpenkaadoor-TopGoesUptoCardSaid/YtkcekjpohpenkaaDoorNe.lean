import Derived.Test.YtkcekjpohpenkaaDoorNd
import Derived.Test.YtkcekjpohpenkaaDoorBk
/- stands where the Moot seat has more. -/
namespace Go.Proofs.YtkcekjpohpenkaaDoor
end Go.Proofs.YtkcekjpohpenkaaDoor
