/- The references' helpers for bytes, more: Kept, CopyBytes. Condition: lengths that memory can hold. -/
import Derived.Test.YtemkpihfenokmaaDoorBytW
namespace Go.Proofs.YtemkpihfenokmaaDoor
open Go.RowKit

end Go.Proofs.YtemkpihfenokmaaDoor
