import Derived.Test.YticeolbagfaofaaRef1
import Derived.Test.YticeolbagfaofaaLen64
import Derived.Test.YticeolbagfaofaaNumPlain
namespace Go.Proofs.Yticeolbagfaofaa
open Go.RowKit

end Go.Proofs.Yticeolbagfaofaa
