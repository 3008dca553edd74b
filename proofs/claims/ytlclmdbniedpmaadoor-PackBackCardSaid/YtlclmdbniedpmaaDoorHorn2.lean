/- Walks: how many bits a share needs, how many bytes a row at most (chapter 11), what a row costs (chapter 12). -/
import Derived.Test.YtlclmdbniedpmaaDoorRefHorn2
namespace Go.Proofs.YtlclmdbniedpmaaDoor
open Go.RowKit

end Go.Proofs.YtlclmdbniedpmaaDoor
