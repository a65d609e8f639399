/- Is a number within two others: codec's within. No condition. -/
import Derived.Test.YtemkpihfenokmaaDoorBytK
namespace Go.Proofs.YtemkpihfenokmaaDoor
open Go.RowKit
end Go.Proofs.YtemkpihfenokmaaDoor
