/- The document's answers, walked (chapter 11): the fault of shares, and a row of signs. -/
import Derived.Test.YtlilommhdjdblaaDoorHorn
namespace Go.Proofs.YtlilommhdjdblaaDoor
open Go.RowKit

end Go.Proofs.YtlilommhdjdblaaDoor
