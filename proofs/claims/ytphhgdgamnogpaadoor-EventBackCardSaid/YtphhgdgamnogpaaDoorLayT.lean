/-
  Nothing of the shelf's is laid here at this seat (strings.TrimFunc is not reached).
-/
import Derived.Test.YtphhgdgamnogpaaDoorProg
namespace Go.Proofs
end Go.Proofs
