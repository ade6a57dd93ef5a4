/- An argument that is a row of calls of doorwardlaw07.Do, opened to its cells. -/
import Derived.Test.YtckihiiimomgfaaDoorGOpen
namespace Go.Proofs.YtckihiiimomgfaaDoor
open Go.ChangeShapes Go.WideShapes Go.ChangeAt Go.RowKit
end Go.Proofs.YtckihiiimomgfaaDoor
