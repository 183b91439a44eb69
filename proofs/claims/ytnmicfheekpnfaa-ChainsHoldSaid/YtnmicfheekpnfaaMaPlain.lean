/-
  Plain laws of layer 28: sequences of machine integers; what Cost hands back.
-/
import Derived.Test.YtnmicfheekpnfaaMaEG
namespace Go.Port
open Go.RowKit
def InSq (s : Sq) : Prop := InI s.lit ∧ InI s.len ∧ InI s.off
def costR (o : Option Int) : Value := .tuple #[.int .i64 (o.getD 0), .int .i64 (if o.isSome then 0 else 15)]
end Go.Port
