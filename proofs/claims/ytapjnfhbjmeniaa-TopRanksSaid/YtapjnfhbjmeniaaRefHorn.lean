/- The document's answers, walked (chapter 11): the fault of shares, and a row of signs. -/
import Derived.Test.YtapjnfhbjmeniaaHorn
namespace Go.Proofs.Ytapjnfhbjmeniaa
open Go.RowKit

end Go.Proofs.Ytapjnfhbjmeniaa
