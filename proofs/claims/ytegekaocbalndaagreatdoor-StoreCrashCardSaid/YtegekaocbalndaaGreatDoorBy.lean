/- slices.Clone of bytes. -/
import Derived.Test.YtegekaocbalndaaGreatDoorAs
import Derived.Test.YtegekaocbalndaaGreatDoorKf
set_option linter.unusedSimpArgs false
set_option linter.unusedVariables false
namespace Go.Proofs.YtegekaocbalndaaGreatDoor
open Go.RowKit

def GotBs (w : World) (l : List UInt8) (e : Ending) (w' : World) : Prop := ∃ (A : Option Addr) (cap : Nat), e = .returned (.slice A l.length cap) ∧ Bs w' w'.heap.size A l ∧ (A = none → l = []) ∧ l.length ≤ cap ∧ Below w.heap.size w w'
set_option maxRecDepth 100000 in
set_option maxHeartbeats 1000000 in
theorem clone_bytes (l : List UInt8) (hl : l.length ≤ 100000000) (A : Option Addr) (cap B : Nat) (w : World) (hA : Bs w B A l) (hA0 : A = none → l = []) (hB : B ≤ w.heap.size) :
    Calls Tryz.prog 54 #[.slice A l.length cap] w (GotBs w l) := by
  have HA := Lib.hid hA.rd
  have HA0 := Lib.hid hA0
  clear hA hA0
  have q22 : ∀ (w : World) (a : Option Addr) (n c n' c' : Nat), (binOp .eql 30 (.slice a n c) (.slice none n' c')).run Tryz.prog w = .ok (.bool a.isNone) w := fun w a n c n' c' => Lib.run_eql_slice_nil w _ _ a n c n' c' Tryz.underlying30
  rcases A with _ | a
  · obtain rfl := HA0.out rfl
    go_enter Tryz.func54, Tryz.ntmps54
    go_wp2_with fail
    go_ret
    exact ⟨none, 0, rfl, fun j hj => absurd hj (Nat.not_lt_zero _), fun _ => rfl, Nat.le_refl _, Below.refl _ _⟩
  · generalize hn : l.length = n at *
    have HL := Lib.hid hn
    clear hn
    go_enter Tryz.func54, Tryz.ntmps54
    go_wp2_with (at_builtin; refine wpList_append_src E5 rfl (.tmp 5) (.tmp 6) rfl w.heap.size _ 0 [] rfl (owns0S w _ _ _ (Nat.le_refl _)) B (some a) (bcells l) n cap rfl (by rw [← HL.out]; exact bcells_length l) ((HA.out).keep fun b o hb => World.cell?_alloc_lt _ _ _ (Nat.lt_of_lt_of_le hb hB)) (fun h => by cases h) (bcells_one l) (by omega) (by omega) w (Nat.le_refl _) (below_alloc _ _) ?_; intro v' w' h2 h3 h4 h5; clear h4 h5; have H2 := Lib.hid h2; have H3 := Lib.hid h3; clear h2 h3)
    go_ret
    have h6 := own_rdS H2.out
    obtain ⟨A', cap', rfl, h7, h8, h9⟩ := h6
    rw [List.nil_append] at h7
    exact ⟨A', cap', by rw [Nat.zero_add, HL.out]; rfl, h7.bs, fun h => by have := h8 h; exact List.eq_nil_of_length_eq_zero (by rw [HL.out]; omega), by rw [HL.out]; omega, H3.out⟩
end Go.Proofs.YtegekaocbalndaaGreatDoor
