/- The document's answers, walked (chapter 4): over the edges, and back. -/
import Derived.Test.YtmohilfebgahoaaGreatDoorLap
import Derived.Test.YtmohilfebgahoaaGreatDoorRef1
namespace Go.Proofs.YtmohilfebgahoaaGreatDoor
open Go.RowKit
end Go.Proofs.YtmohilfebgahoaaGreatDoor
/- The document's answers, walked (chapter 4): back over the edges. -/
namespace Go.Proofs.YtmohilfebgahoaaGreatDoor
open Go.RowKit

end Go.Proofs.YtmohilfebgahoaaGreatDoor
