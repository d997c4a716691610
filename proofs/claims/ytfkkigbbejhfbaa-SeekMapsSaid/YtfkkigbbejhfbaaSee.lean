/- Looks at values of unknown form, as the printed equations use them. -/
import Derived.Test.YtfkkigbbejhfbaaCheck
namespace Go.Proofs.Ytfkkigbbejhfbaa.Idl
open Go
section
variable {R : Type}
def seeInts (o : Bool) (k : IntKind) (v : V) (K : List Int → Option R) : Option R :=
  match v with
  | .sl o' a => if o' = o then (match a with | .ints k' l => if k' = k then K l else none | _ => none) else none
  | _ => none
def seeBools (o : Bool) (v : V) (K : List Bool → Option R) : Option R :=
  match v with
  | .sl o' a => if o' = o then (match a with | .bools l => K l | _ => none) else none
  | _ => none
def seeStrs (o : Bool) (v : V) (K : List ByteArray → Option R) : Option R :=
  match v with
  | .sl o' a => if o' = o then (match a with | .strs l => K l | _ => none) else none
  | _ => none
def seeVals (o : Bool) (n : Nat) (v : V) (K : List V → Option R) : Option R :=
  match v with
  | .sl o' a => if o' = o then (match a with | .vals n' l => if n' = n then K l else none | _ => none) else none
  | _ => none
end
end Go.Proofs.Ytfkkigbbejhfbaa.Idl
