import Derived.Test.YtkdkpnidiehdfaaDoorDf
import Derived.Deep.RegionHeld3
set_option linter.unusedSimpArgs false
set_option linter.unusedVariables false
namespace Go.Proofs.YtkdkpnidiehdfaaDoor
open Go.RowKit

theorem str_toList (a : List UInt8) : (str a).toList = a := ByteArray.toList_mk a

set_option maxHeartbeats 400000 in
theorem same_bytes (la lb : List UInt8) (A B : Option Addr) (n m ca cb : Nat) (w : World) (Ba Bb : Nat) (hn : n = la.length) (hm : m = lb.length) (ha : Bs w Ba A la) (hA : A = none → la = []) (hb : Bs w Bb B lb) (hB : B = none → lb = []) :
    Calls Tryd.prog 57 #[.slice A n ca, .slice B m cb] w fun e w' => e = .returned (.bool (decide (la = lb))) ∧ w = w' := by
  have h1 := run_conv_bytes w 22 5 9 Tryd.underlying22 Tryd.underlying5 Tryd.underlying9 Ba A la n ca hn ha hA
  have h2 := run_conv_bytes w 22 5 9 Tryd.underlying22 Tryd.underlying5 Tryd.underlying9 Bb B lb m cb hm hb hB
  clear ha hA hb hB hn hm
  go_enter Tryd.func57, Tryd.ntmps57
  go_wp2
  go_ret
  exact ⟨ret_bool (by rw [str_toList, str_toList]; by_cases h : la = lb <;> simp [h]), rfl⟩

set_option maxHeartbeats 1000000 in
theorem kept_bytes (l : List UInt8) (hl : l.length ≤ 100000000) (A : Option Addr) (cap g : Nat) (w : World) (hA : Bs w w.heap.size A l) (hg : w.heap[g]? = some (.cells (bcells (l ++ marks l.length)).toArray 5 (0, 0))) :
    Calls Tryd.prog 18 #[.slice (some ⟨g, 0, none⟩) l.length (l.length + 3), .slice A l.length cap] w fun e w' => e = .returned (.bool true) ∧ Below w.heap.size w w' := by
  have HA := Lib.hid hA
  have Hg := Lib.hid hg
  have HL := Lib.hid hl
  clear hA hg hl
  generalize hc : l.length + 3 = c
  have Hc := Lib.hid hc
  have x1 : (0 : Int) ≤ c := by omega
  have x2 : (0 : Int) ≤ (l.length : Int) + 3 := by omega
  have x3 : (l.length : Int) + 3 ≤ c := by omega
  have x4 : ((l.length : Int) + 3).toNat = c := by omega
  have x5 : IntKind.i64.wrap ((l.length : Int) + 3) = (l.length : Int) + 3 := wi64 _ (by have := HL.out; omega) (by have := HL.out; omega)
  clear hc
  go_enter Tryd.func18, Tryd.ntmps18
  go_wp2
  go_region_held3 (fun w' => Below w.heap.size w w') (first | exact (Below.refl _ _).drew | assumption) ((first
    | (go_at_call 15; refine (lent_bytes l HL.out A cap _ ?_).mono ?_; exact HA.out; rintro e w1 ⟨g1, rfl, hg1, hw1, hb1⟩; have hbw1 : Below w.heap.size w w1 := (Below.refl _ _).drew.trans hb1; have Hw1 := Lib.hid hw1; clear hw1 hb1; rw [Hc.out])
    | (go_at_call 57; refine (same_bytes (l ++ marks l.length) (l ++ marks l.length) _ _ _ _ _ _ _ w.heap.size w1.heap.size ?_ ?_ ?_ ?_ ?_ ?_).mono ?_; exact (by rw [← Hc.out]; simp [marks]); exact (by rw [← Hc.out]; simp [marks]); exact Bs.below (Bs.blk Hg.out) hbw1; exact (by intro h; cases h); exact Bs.blk Hw1.out; exact (by intro h; cases h); rintro e w2 ⟨rfl, rfl⟩)))
  go_wp2
  go_ret
  exact ⟨rfl, by assumption⟩
end Go.Proofs.YtkdkpnidiehdfaaDoor
