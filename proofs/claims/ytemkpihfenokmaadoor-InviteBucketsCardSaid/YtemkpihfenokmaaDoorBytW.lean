/- The references' helpers for bytes: EqBytes, Spare, Kept, CopyBytes: what each answers. Condition: lengths that memory can hold. -/
import Derived.Test.YtemkpihfenokmaaDoorByt
namespace Go.Proofs.YtemkpihfenokmaaDoor
open Go.RowKit

end Go.Proofs.YtemkpihfenokmaaDoor
