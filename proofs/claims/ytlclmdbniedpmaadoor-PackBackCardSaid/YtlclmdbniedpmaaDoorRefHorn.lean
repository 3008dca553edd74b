/- The document's answers, walked (chapter 11): the fault of shares, and a row of signs. -/
import Derived.Test.YtlclmdbniedpmaaDoorHorn
namespace Go.Proofs.YtlclmdbniedpmaaDoor
open Go.RowKit

end Go.Proofs.YtlclmdbniedpmaaDoor
