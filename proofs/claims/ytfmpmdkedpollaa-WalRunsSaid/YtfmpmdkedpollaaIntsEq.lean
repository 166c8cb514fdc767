/- Two lists of numbers are compared. -/
import Derived.Test.YtfmpmdkedpollaaInts
namespace Go.Proofs.Ytfmpmdkedpollaa
open Go.RowKit
set_option maxRecDepth 100000

end Go.Proofs.Ytfmpmdkedpollaa
