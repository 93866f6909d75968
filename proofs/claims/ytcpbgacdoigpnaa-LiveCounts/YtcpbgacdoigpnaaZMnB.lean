/- The walks of layer 15: the document's Entry, May, Same; the program's Same. -/
import Derived.Test.YtcpbgacdoigpnaaZMnA
namespace Go.Proofs.Ytcpbgacdoigpnaa
open Go.RowKit

end Go.Proofs.Ytcpbgacdoigpnaa
