/- several texts in one: clock.Next., clocks: all of the same length., clock.Next. -/
import Derived.Test.YtaalinhkikmfaaaMg10
import Derived.Test.YtaalinhkikmfaaaAs
import Derived.Test.YtaalinhkikmfaaaEg
section
set_option linter.unusedSimpArgs false
set_option linter.unusedVariables false
namespace Go.Proofs.Ytaalinhkikmfaaa
open Go.RowKit

set_option maxRecDepth 100000 in
set_option maxHeartbeats 1000000 in
theorem copy_events (l : List Ev) (hl : l.length ≤ 1000000) (A : Option Addr) (cap : Nat) (w : World) (hA : Evs w w.heap.size A l) (hA0 : A = none → l.length = 0) :
    Calls Try.prog 30 #[.slice A l.length cap] w fun e w' => ∃ v, e = .returned v ∧ w'.ownsRow w.heap.size 50 3 v l.length (evcells l) ∧ Below w.heap.size w w' := by
  have HA := Lib.hid hA; have HA0 := Lib.hid hA0
  clear hA hA0
  go_enter Try.func30, Try.ntmps30
  go_wp2_with (refine wpList_append_srcS ES3 rfl (.tmp 3) (.tmp 4) rfl w.heap.size _ 0 [] rfl (owns0S w _ _ _ (Nat.le_refl _)) w.heap.size A (evcells l) l.length cap rfl (evcells_length l) ((HA.out.rd).keep fun b o hb => World.cell?_alloc_lt _ _ _ hb) HA0.out (evcells_one l) (by omega) (by omega) w (Nat.le_refl _) (below_alloc _ _) ?_; intro v' w' h2 h3 h4 h5; clear h4 h5; have H2 := Lib.hid h2; have H3 := Lib.hid h3; clear h2 h3)
  go_ret
  exact ⟨v', rfl, by simpa using H2.out, H3.out⟩
end Go.Proofs.Ytaalinhkikmfaaa
end

section
set_option linter.unusedSimpArgs false
set_option linter.unusedVariables false
namespace Go.Proofs.Ytaalinhkikmfaaa
open Go.RowKit

end Go.Proofs.Ytaalinhkikmfaaa
end

section
set_option linter.unusedSimpArgs false
set_option linter.unusedVariables false
namespace Go.Proofs.Ytaalinhkikmfaaa
open Go.RowKit

end Go.Proofs.Ytaalinhkikmfaaa
end
