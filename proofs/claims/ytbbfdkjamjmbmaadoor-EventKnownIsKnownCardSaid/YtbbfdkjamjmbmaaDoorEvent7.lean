/- The reference's CheckLog. -/
import Derived.Test.YtbbfdkjamjmbmaaDoorEvent6
namespace Go.Proofs.YtbbfdkjamjmbmaaDoor
open Go.RowKit
end Go.Proofs.YtbbfdkjamjmbmaaDoor
