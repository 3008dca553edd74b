/- Walks: pulses, and their numbers (chapter 6). -/
import Derived.Test.YtfnbehjebmbbdaaDoorCount2
namespace Go.Proofs.YtfnbehjebmbbdaaDoor
open Go.RowKit
end Go.Proofs.YtfnbehjebmbbdaaDoor
