/- container/heap.Pop over norm.ready. -/
import Derived.Test.YtaalinhkikmfaaaMg4
set_option linter.unusedSimpArgs false
set_option linter.unusedVariables false
namespace Go.Proofs.Ytaalinhkikmfaaa
open Go.RowKit

set_option maxRecDepth 100000 in
set_option maxHeartbeats 4000000 in
theorem hpop_at {X : Nat → Prop} {w : World} {B g n m cm B0 : Nat} {A : Option Addr} {a : Nat → Nat} (l : List Ev) (hm : m = l.length) (h : RQ X w B g (.slice A m cm) (n + 1) a) (hA : ∀ W, QX X w W → Evs W B0 A l) (hn : n ≤ 100000) (hall : ∀ i, i < n + 1 → a i < m) (hh : HeapP (tk l) a (n + 1)) (hin : InjP a (n + 1)) :
    Calls Try.prog 38 #[rif g] w fun e w' => e = .returned (.iface 3 (.int .i64 (a 0 : Nat))) ∧ ∃ a', HeapP (tk l) a' n ∧ InjP a' n ∧ (∀ x, Has a' n x ↔ Has a (n + 1) x ∧ x ≠ a 0) ∧ RQ X w' B g (.slice A m cm) n a' ∧ QX X w w' := by
  have HA := Lib.hid hA; have HH := Lib.hid hh; have HL := Lib.hid hall; have HM := Lib.hid hm; have HIN := Lib.hid hin
  have HLN := Lib.hid (rlen_at h)
  have HSW := Lib.hid (rswap_at h (show 0 < n + 1 by omega) (show n < n + 1 by omega))
  clear h hA hh hall hm hin
  unfold rif
  rw [show ((0 : Nat) : Int) = 0 from rfl] at HSW
  have hip := inv_pop ⟨g, 0, none⟩
  have hil := inv_len ⟨g, 0, none⟩
  have his := inv_swap ⟨g, 0, none⟩
  have e0 : IntKind.i64.wrap (((n + 1 : Nat) : Int) - 1) = (n : Int) := by rw [wi64 _ (by omega) (by omega)]; omega
  go_enter Try.func38, Try.ntmps38
  go_wp2_with fail
  refine HLN.out.mono ?_
  rintro e w1 ⟨rfl, rfl⟩
  go_wp2_with fail
  with_reducible refine HSW.out.mono ?_
  rintro e w2 ⟨rfl, r2, q2⟩
  have HS2 : Hid (SameA (n + 1) a (swp a 0 n)) := Lib.hid ((SameA.refl (n + 1) a).swp (by omega) (by omega))
  have HQ2 := Lib.hid q2
  have HDN := Lib.hid (down_at l HM.out r2 (fun W hW => HA.out W (q2.trans hW)) (by omega) (show n ≤ n + 1 by omega) (HS2.out.lt HL.out) (pop_down HH.out))
  clear r2 q2
  unfold rif at HDN
  go_wp2_with fail
  with_reducible refine HDN.out.mono ?_
  rintro e w3 ⟨⟨b, rfl⟩, a', h1, h2, h3, h4, h5⟩
  have H1 := Lib.hid h1; have H2 := Lib.hid h2; have H5 := Lib.hid (HQ2.out.trans h5)
  have hlast : a' n = a 0 := by rw [h3 n (Nat.le_refl _), swp_j]
  have HPO := Lib.hid (rpop_at h4 (by omega))
  rw [hlast] at HPO
  have HLA := Lib.hid hlast
  clear h1 h2 h3 h4 h5 hlast
  go_wp2_with fail
  with_reducible refine HPO.out.mono ?_
  rintro e w4 ⟨rfl, r4, q4⟩
  have R4 := Lib.hid r4; have Q4 := Lib.hid (H5.out.trans q4)
  clear r4 q4
  go_wp2_with fail
  go_ret
  have hin2 : InjP a' (n + 1) := H2.out.2 (HS2.out.2 HIN.out)
  refine ⟨rfl, a', H1.out, inj_less hin2 (by omega), fun x => ?_, R4.out, Q4.out⟩
  rw [has_last hin2, HLA.out, H2.out.1, HS2.out.1]
end Go.Proofs.Ytaalinhkikmfaaa
