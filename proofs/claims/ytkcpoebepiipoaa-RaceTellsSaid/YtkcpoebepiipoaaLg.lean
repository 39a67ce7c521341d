/- assizeref14.between. -/
import Derived.Test.YtkcpoebepiipoaaHc
import Derived.Test.YtkcpoebepiipoaaGd
set_option linter.unusedSimpArgs false
set_option linter.unusedVariables false
namespace Go.Proofs.Ytkcpoebepiipoaa
open Go.RowKit
/-- the rows that Heads answers. -/
def HM (w : World) (B : Nat) (v : Value) (m : Nat) (l : List Ev) (γ : Nat → Nat) : Prop := BMat w B v m (fun j => j) (fun j k => rc (fun a b => dpd (ev l a) (ev l b)) k j) γ
set_option maxRecDepth 100000 in
set_option maxHeartbeats 4000000 in
theorem between_any (l : List Ev) (m : Nat) (hl : m ≤ 2000) (i j : Nat) (hij : i < j) (hj : j < m) (v : Value) (B : Nat) (γ : Nat → Nat) (w : World) (hM : HM w B v m l γ) :
    Calls Try.prog 31 #[v, .int .i64 i, .int .i64 j] w fun e w' => e = .returned (.bool (btw l i j)) ∧ Below w.heap.size w w' := by
  obtain ⟨A, c, rfl, _, _, _⟩ := own_rd hM.1
  have HMM := Lib.hid hM
  clear hM
  have HY := Lib.hid (fun k => btw_yes (l := l) (i := i) (j := j) (k := k))
  have HN := Lib.hid (btw_no (l := l) (i := i) (j := j))
  have wi : IntKind.i64.wrap ((i : Int) + 1) = i + 1 := wi64 _ (by omega) (by omega)
  go_enter Try.func31, Try.ntmps31
  go_wp2_with fail
  go_loopw [7] (fun kv wr => ∃ k : Nat, i < k ∧ (k ≤ j) ∧ kv = .int .i64 k ∧ (∀ k', i < k' → k' < k → (hb l i k' && hb l k' j) = false) ∧ wr = w) (fun kv _ => j - (intOf kv).toNat)
  case atStart => exact ⟨i + 1, by omega, by omega, rfl, fun k' h1 h2 => by omega, rfl⟩
  case round =>
    obtain ⟨k, hk1, hk2, rfl, hk3, rfl⟩ := hrel
    have HK3 := Lib.hid hk3
    clear hk3
    by_cases hlt : k < j
    · have HN1 : Hid ((hb l i k && hb l k j) = false → ∀ k', i < k' → k' < k + 1 → (hb l i k' && hb l k' j) = false) := Lib.hid (fun h k' h1 h2 => by
        by_cases e : k' = k
        · rw [e]; exact h
        · exact HK3.out k' h1 (by omega))
      have HY1 := Lib.hid (HY.out k hk1 hlt)
      obtain ⟨b, o, c', e, m1, m2⟩ := BMat.row HMM.out (show k < m by omega)
      injection e with e1 _ e2
      subst e1 e2
      obtain ⟨b2, o2, c2, e, m3, m4⟩ := BMat.row HMM.out hj
      injection e with e1 _ e2; injection e1 with e1; injection e1 with e1 e3
      subst e1 e2 e3
      have m2' := m2 i (by omega)
      have m4' := m4 k (by omega)
      rw [← hb_rc] at m2' m4'
      clear m2 m4
      generalize hb l i k = x at *
      generalize hb l k j = y at *
      cases x
      · have HN2 := Lib.hid (HN1.out rfl)
        go_wp2_with fail
        go_roundw
        case rel => exact ⟨k + 1, by omega, by omega, by go_num, HN2.out, by first | rfl | trivial⟩
        case measure => simp [intOf]; omega
      · cases y
        · have HN2 := Lib.hid (HN1.out rfl)
          go_wp2_with fail
          go_roundw
          case rel => exact ⟨k + 1, by omega, by omega, by go_num, HN2.out, by first | rfl | trivial⟩
          case measure => simp [intOf]; omega
        · have HF := Lib.hid (HY1.out (by trivial) (by trivial))
          go_wp2_with fail
          go_ret
          exact ⟨by rw [HF.out]; rfl, Below.refl _ _⟩
    · obtain rfl : k = j := by omega
      have HF := Lib.hid (HN.out HK3.out)
      go_wp2_with fail
      go_ret
      exact ⟨by rw [HF.out]; rfl, Below.refl _ _⟩
end Go.Proofs.Ytkcpoebepiipoaa
