/- The reference's Check of events; the order of events. -/
import Derived.Test.YtbbfdkjamjmbmaaDoorEvent
import Derived.Test.YtbbfdkjamjmbmaaDoorCmp
namespace Go.Proofs.YtbbfdkjamjmbmaaDoor
open Go.RowKit
end Go.Proofs.YtbbfdkjamjmbmaaDoor
