import Derived.Test.YtkdkpnidiehdfaaDoorDk
import Derived.Test.YtkdkpnidiehdfaaDoorDi
import Derived.Test.YtkdkpnidiehdfaaDoorDg
import Derived.Test.YtkdkpnidiehdfaaDoorLaw
import Derived.Test.YtkdkpnidiehdfaaDoorEq
set_option linter.unusedSimpArgs false
set_option linter.unusedVariables false
namespace Go.Proofs.YtkdkpnidiehdfaaDoor
open Go.RowKit

theorem Bs.pre {w : World} {B : Nat} {A : Option Addr} {l r : List UInt8} (h : Bs w B A (l ++ r)) : Bs w B A l := fun j hj => by
  obtain ⟨b, off, e, hb, hc⟩ := h j (by simp; omega)
  exact ⟨b, off, e, hb, by rw [hc, getD_app _ _ _ _ hj]⟩
theorem eql_dig (a b : List UInt8) (ha : a.length = 32) (hb : b.length = 32) (w : World) : (binOp .eql 25 (dg a) (dg b)).run Tryd.prog w = .ok (.bool (decide (a = b))) w :=
  run_eql_bytes Tryd.underlying25 Tryd.underlying5 (by kernel_rfl) a b ha hb w
@[go_sem] theorem eqg_dig (op : BinOp) (x y : Operand) (a b : List UInt8) (w : World) : (eqGuard op 25 x y (dg a) (dg b)).run Tryd.prog w = .ok () w :=
  run_eqGuard_agg w op 25 x y _ _ (by kernel_rfl)
theorem sha_length (l : List UInt8) : (sha l).length = 32 := by unfold sha; exact dbytes_length _

set_option maxRecDepth 100000 in
set_option maxHeartbeats 1000000 in
theorem sums_walk (l : List UInt8) (A : Option Addr) (cap : Nat) (w : World) (hA : Bs w w.heap.size A l) (hA0 : A = none → l = []) (hk : KMem w) :
    Calls Tryd.prog 3 #[.slice A l.length cap] w fun e w' => e = .returned (.bool true) ∧ Below w.heap.size w w' := by
  by_cases hl : l.length ≤ 100000
  · have HA := Lib.hid hA
    have HA0 := Lib.hid hA0
    have HK := Lib.hid hk
    have HL := Lib.hid (Nat.le_trans hl (by omega : 100000 ≤ 100000000))
    clear hA hA0 hk
    have he := fun W => eql_dig (sha l) (sha l) (sha_length l) (sha_length l) W
    have Hfin := Lib.hid (finish_sha l)
    simp only [decide_true] at he
    go_enter Tryd.func3, Tryd.ntmps3
    go_wp2_with fail
    refine (lent_bytes l HL.out A cap w HA.out).mono ?_
    rintro e w1 ⟨g, rfl, hg1, hw1, hb1⟩
    have Hw1 := Lib.hid hw1
    have Hb1 := Lib.hid hb1
    have HK1 := Lib.hid (KMem.below HK.out hb1 HK.out.pos)
    clear hw1 hb1
    go_wp2_with fail
    refine (dig_sum l HL.out _ _ w1 (Bs.pre (Bs.blk Hw1.out)) HK1.out).mono ?_
    rintro e w2 ⟨rfl, hb2⟩
    rw [Hfin.out]
    have Hb2 := Lib.hid hb2
    clear hb2
    go_wp2_with fail
    have Hw02 := Lib.hid (Hb1.out.trans (Hb2.out.mono Hb1.out.size))
    refine (sum_ref l HL.out A cap HA0.out w2 ((HA.out.below Hw02.out).more Hw02.out.size)).mono ?_
    rintro e w3 ⟨rfl, hb3⟩
    have Hb3 := Lib.hid hb3
    clear hb3
    have Hw03 := Lib.hid (Hw02.out.trans (Hb3.out.mono Hw02.out.size))
    have Hw3 := Lib.hid ((Hb3.out.block g (Nat.lt_of_lt_of_le (lt_blk Hw1.out) Hb2.out.size)).trans ((Hb2.out.block g (lt_blk Hw1.out)).trans Hw1.out))
    go_wp2_with fail
    refine (kept_bytes l HL.out A cap g w3 ((HA.out.below Hw03.out).more Hw03.out.size) Hw3.out).mono ?_
    rintro e w4 ⟨rfl, hb4⟩
    have Hb4 := Lib.hid hb4
    clear hb4
    go_wp2_with fail
    go_ret
    exact ⟨rfl, Hw03.out.trans (Hb4.out.mono Hw03.out.size)⟩
  · clear hA hA0 hk
    go_enter Tryd.func3, Tryd.ntmps3
    go_wp2
    go_ret
    exact ⟨rfl, Below.refl _ _⟩
end Go.Proofs.YtkdkpnidiehdfaaDoor
