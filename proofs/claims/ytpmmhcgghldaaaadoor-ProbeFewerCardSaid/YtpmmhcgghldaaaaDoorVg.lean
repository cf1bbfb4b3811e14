/- Own layer, part g: maps. Nothing of the program stands here. -/
import Derived.Test.YtpmmhcgghldaaaaDoorVe
namespace Go.Proofs.YtpmmhcgghldaaaaDoor
open Go Go.RowKit
def mapOf (P : Program) (t : TypeId) : Option (TypeId × TypeId) := match P.underlying t with | some (.map k e) => some (k, e) | _ => none
class MapTy (P : Program) (t : TypeId) (k e : outParam TypeId) : Prop where h : mapOf P t = some (k, e)
def arrOf (P : Program) (t : TypeId) : Option (Nat × TypeId × Nat) := match P.underlying t with | some (.array n e) => (P.info? e).map fun i => (n, e, i.size) | _ => none
class ArrTy (P : Program) (t : TypeId) (n : outParam Nat) (e : outParam TypeId) (sz : outParam Nat) : Prop where h : arrOf P t = some (n, e, sz)
def isBoo (P : Program) (t : TypeId) : Bool := match P.underlying t with | some .bool => true | _ => false
class BoolTy (P : Program) (t : TypeId) : Prop where h : isBoo P t = true
end Go.Proofs.YtpmmhcgghldaaaaDoor
