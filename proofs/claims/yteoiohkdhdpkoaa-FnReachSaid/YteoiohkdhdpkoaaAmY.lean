/- The abstract machine: objects that are told by their blocks alone change their blocks; steps of another kind. -/
import Derived.Test.YteoiohkdhdpkoaaAmC
namespace Go.Am
open Go

end Go.Am

