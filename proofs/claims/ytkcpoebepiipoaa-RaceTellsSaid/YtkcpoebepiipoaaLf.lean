/- KeptEvents. -/
import Derived.Test.YtkcpoebepiipoaaLe
import Derived.Deep.RegionHeld3
set_option linter.unusedSimpArgs false
set_option linter.unusedVariables false
namespace Go.Proofs.Ytkcpoebepiipoaa
open Go.RowKit
set_option maxRecDepth 100000 in
set_option maxHeartbeats 4000000 in
theorem kept_events (l : List Ev) (m : Nat) (hm : m = l.length) (hl : m ≤ 100000) (A : Option Addr) (cap g : Nat) (cur : Array Value) (w : World) (hA : Evs w w.heap.size A l) (hA0 : A = none → m = 0) (hg : w.heap[g]? = some (.cells cur 24 (0, 0))) (hc : ∀ j, j < (m + 3) * 3 → cur[j]? = (evcells (lentE l))[j]?) :
    Calls Try.prog 16 #[.slice (some ⟨g, 0, none⟩) m (m + 3), .slice A m cap] w fun e w' => e = .returned (.bool true) ∧ Below w.heap.size w w' := by
  have HA := Lib.hid hA
  have HA0 := Lib.hid hA0
  have Hg := Lib.hid (lent_rd hm hg hc)
  have Hgl := Lib.hid (lt_blk hg)
  have HM := Lib.hid hm
  have Hlen : Hid (m + 3 = (lentE l).length) := Lib.hid (by rw [lentE_length, hm])
  clear hA hg hA0 hc hm
  obtain ⟨c, hc⟩ : ∃ c, c = m + 3 := ⟨_, rfl⟩
  rw [← hc] at Hlen ⊢
  have Hc := Lib.hid hc
  have x1 : (0 : Int) ≤ c := by omega
  have x2 : (0 : Int) ≤ (m : Int) + 3 := by omega
  have x3 : (m : Int) + 3 ≤ c := by omega
  have x4 : ((m : Int) + 3).toNat = c := by omega
  have x5 : IntKind.i64.wrap ((m : Int) + 3) = (m : Int) + 3 := wi64 _ (by omega) (by omega)
  clear hc
  go_enter Try.func16, Try.ntmps16
  go_wp2
  go_region_held3 (fun w' => Below w.heap.size w w') (first | exact (Below.refl _ _).drew | assumption) ((first
    | (go_at_call 7; refine (lent_events l m HM.out (by have := Hc.out; omega) A cap _ ?_ HA0.out).mono ?_; exact HA.out; rintro e w1 ⟨g1, cu1, rfl, hg1, hw1, hcu1, hb1⟩; have hbw1 : Below w.heap.size w w1 := (Below.refl _ _).drew.trans hb1; have Hw1 := Lib.hid (lent_rd HM.out hw1 hcu1); have Hl1 := Lib.hid (lt_blk hw1); clear hw1 hb1 hcu1; rw [← Hc.out])
    | (go_at_call 37; refine (same_events (lentE l) c Hlen.out (by have := Hc.out; omega) _ _ _ _ w1.heap.size w1 ?_ ?_ ?_).mono ?_; exact ((Hg.out.more Hgl.out).below hbw1).more hbw1.size; exact Hw1.out.more Hl1.out; exact Nat.le_refl _; rintro e w2 ⟨rfl, hb2⟩; have hbw2 : Below w.heap.size w w2 := hbw1.trans (hb2.mono hbw1.size); clear hb2)))
  go_wp2
  go_ret
  exact ⟨rfl, by assumption⟩
end Go.Proofs.Ytkcpoebepiipoaa
