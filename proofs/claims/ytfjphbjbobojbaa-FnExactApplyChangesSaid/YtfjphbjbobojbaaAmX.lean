/- A run's steps: the count of draws only grows. -/
import Derived.Calls
namespace Go.Am
open Go
set_option maxHeartbeats 4000000

end Go.Am

