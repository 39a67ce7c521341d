/- tenant.New. -/
import Derived.Test.YtkdkpnidiehdfaaDoorZc
import Derived.Test.YtkdkpnidiehdfaaDoorZd
set_option linter.unusedSimpArgs false
set_option linter.unusedVariables false
namespace Go.Proofs.YtkdkpnidiehdfaaDoor
open Go.RowKit

set_option maxRecDepth 100000 in
set_option maxHeartbeats 2000000 in
theorem tnew_no (ts : List Tn) (n : Nat) (hn : n = ts.length) (hl : n ≤ 1000000) (ht : Toks ts) (A : Option Addr) (cap : Nat) (hcap : n ≤ cap) (w : World) (hA : Tns w w.heap.size A ts) (hc : chk ts ≠ 0) :
    Calls Tryd.prog 37 #[.slice A n cap] w fun e w' => e = .returned (.tuple #[.pointer none, .int .i64 (chk ts)]) ∧ Below w.heap.size w w' := by
  have HC := Lib.hid (check_any ts n hn (by omega) ht A cap hcap w hA)
  have h1 : (chk ts != 0) = true := by rw [bne_iff_ne]; exact hc
  clear hA ht hn hc
  generalize chk ts = c at *
  go_enter Tryd.func37, Tryd.ntmps37
  go_wp2_with fail
  refine HC.out.mono ?_
  rintro e w1 ⟨rfl, hb⟩
  have HB := Lib.hid hb
  clear hb
  go_wp2_with fail
  go_ret2
  exact ⟨rfl, HB.out⟩
set_option maxRecDepth 100000 in
set_option maxHeartbeats 2000000 in
theorem tnew_ok (ts : List Tn) (n : Nat) (hn : n = ts.length) (hl : n ≤ 1000000) (ht : Toks ts) (A : Option Addr) (cap : Nat) (hcap : n ≤ cap) (w : World) (hA : Tns w w.heap.size A ts) (hA0 : A = none → n = 0) (hc : chk ts = 0) :
    Calls Tryd.prog 37 #[.slice A n cap] w fun e w' => ∃ p m, e = .returned (.tuple #[.pointer (some ⟨p, 0, none⟩), .int .i64 0]) ∧ TabAt w' p m ⟨ts, []⟩ ∧ w.heap.size ≤ p ∧ w.heap.size ≤ m ∧ Below w.heap.size w w' := by
  have HC := Lib.hid (check_any ts n hn (by omega) ht A cap hcap w hA)
  rw [hc] at HC
  have HL : Hid (∀ w', Below w.heap.size w w' → Calls Tryd.prog 63 #[.slice A n cap] w' fun e w2 => ∃ v, e = .returned v ∧ w2.ownsRow w'.heap.size 77 36 v n (tnc ts) ∧ Below w'.heap.size w' w2) :=
    Lib.hid fun w' hb => clone_tens ts n hn hl ht A cap w' (hA.ext hb) hA0
  have HT := Lib.hid ht; have HN := Lib.hid hn
  have HK : Hid (n ≤ 64) := Lib.hid (by
    unfold chk at hc
    split at hc
    · cases hc
    · omega)
  clear hA hA0 ht hn hc
  have hmm := @run_makeMap Tryd.prog
  go_enter Tryd.func37, Tryd.ntmps37
  go_wp2_with fail
  refine HC.out.mono ?_
  rintro e w1 ⟨rfl, hb⟩
  have HB := Lib.hid hb
  clear hb
  go_wp2_with fail
  refine (HL.out w1 HB.out).mono ?_
  rintro e w2 ⟨v, rfl, ho, hb2⟩
  obtain ⟨A2, c2, rfl, hr, hn2, hc2⟩ := own_rdS ho
  have HR := Lib.hid hr; have HB2 := Lib.hid hb2
  clear ho hr hb2
  go_wp2_with fail
  go_ret2
  have e1 := heap_alloc_new w2 (.map #[] 0)
  have e2 := heap_alloc_new (w2.alloc (.map #[] 0)) (.cells #[.slice A2 n c2, .map (some w2.heap.size)] 95)
  rw [World.size_alloc] at e2
  have hz := HB.out.size
  have hz2 := HB2.out.size
  have hb3 : Below w2.heap.size w2 ((w2.alloc (.map #[] 0)).alloc (.cells #[.slice A2 n c2, .map (some w2.heap.size)] 95)) := ((Below.refl _ _).alloc (Nat.le_refl _) _).alloc (by simp) _
  refine ⟨_, w2.heap.size, rfl, ⟨⟨A2, c2, ?_, ?_, by rw [← HN.out]; exact hc2⟩, (MapZ.made _ _ w2).below (by exact ((Below.refl _ _).alloc (Nat.le_refl _) _)), ⟨by simp [ZRising], by simp, by rw [← HN.out]; exact HK.out, HT.out, by simp⟩⟩, ?_, by omega, (HB.out.trans (HB2.out.mono hz)).trans (hb3.mono (by omega))⟩
  · rw [← HN.out]; exact e2
  · exact (Tns.of_rd HR.out HT.out).ext hb3
  · omega
end Go.Proofs.YtkdkpnidiehdfaaDoor
