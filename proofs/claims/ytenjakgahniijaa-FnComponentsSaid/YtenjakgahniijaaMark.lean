/- Contracts of the laws' own helpers that mark results and look for the marks. No statement is proved here. -/
import Derived.Test.YtenjakgahniijaaHelp
import Derived.Test.YtenjakgahniijaaTab
namespace Go.Proofs.Ytenjakgahniijaa
open Go.RowKit Go.Deep

end Go.Proofs.Ytenjakgahniijaa
