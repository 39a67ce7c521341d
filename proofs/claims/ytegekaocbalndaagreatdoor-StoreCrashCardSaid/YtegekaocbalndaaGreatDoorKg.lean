import Derived.Test.YtegekaocbalndaaGreatDoorKf
import Derived.Deep.RegionHeld3
set_option linter.unusedSimpArgs false
set_option linter.unusedVariables false
namespace Go.Proofs.YtegekaocbalndaaGreatDoor
open Go.RowKit

theorem str_toList (a : List UInt8) : (str a).toList = a := ByteArray.toList_mk a

set_option maxHeartbeats 400000 in
theorem same_bytes (la lb : List UInt8) (A B : Option Addr) (n m ca cb : Nat) (w : World) (Ba Bb : Nat) (hn : n = la.length) (hm : m = lb.length) (ha : Bs w Ba A la) (hA : A = none → la = []) (hb : Bs w Bb B lb) (hB : B = none → lb = []) :
    Calls Tryz.prog 17 #[.slice A n ca, .slice B m cb] w fun e w' => e = .returned (.bool (decide (la = lb))) ∧ w = w' := by
  have h1 := run_conv_bytes w 30 5 9 Tryz.underlying30 Tryz.underlying5 Tryz.underlying9 Ba A la n ca hn ha hA
  have h2 := run_conv_bytes w 30 5 9 Tryz.underlying30 Tryz.underlying5 Tryz.underlying9 Bb B lb m cb hm hb hB
  clear ha hA hb hB hn hm
  go_enter Tryz.func17, Tryz.ntmps17
  go_wp2
  go_ret
  exact ⟨ret_bool (by rw [str_toList, str_toList]; by_cases h : la = lb <;> simp [h]), rfl⟩

end Go.Proofs.YtegekaocbalndaaGreatDoor
