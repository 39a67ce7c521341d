/- ClockOrders: as its row wants it. -/
import Derived.Test.YtmllmfjdbfikoaaCs
namespace Go.Proofs.Ytmllmfjdbfikoaa
open Go.RowKit
theorem clockorders_row (l : List Ev) (A : Option Addr) (cap : Nat) (n at_ : Int) (w : World) (hA : Evs w w.heap.size A l) (hA0 : A = none → l.length = 0) (hl : l.length ≤ 140737488351232) (hcap : l.length ≤ cap)
    (_ : (-9223372036854775808 : Int) ≤ n ∧ n ≤ 9223372036854775807) (hat : (-9223372036854775808 : Int) ≤ at_ ∧ at_ ≤ 9223372036854775807) :
    Calls Try.prog 4 #[.slice A l.length cap, .int .i64 n, .int .i64 at_] w fun e w' => e = .returned (.bool true) ∧ Below w.heap.size w w' :=
  clockorders_walk l A cap n at_ w hA hA0 hl hcap hat
end Go.Proofs.Ytmllmfjdbfikoaa
