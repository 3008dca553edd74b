/- Walks: how many bits a share needs, how many bytes a row at most (chapter 11), what a row costs (chapter 12). -/
import Derived.Test.YtlilommhdjdblaaDoorRefHorn2
namespace Go.Proofs.YtlilommhdjdblaaDoor
open Go.RowKit

end Go.Proofs.YtlilommhdjdblaaDoor
