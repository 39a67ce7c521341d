/- assizeref12.Depends, assizeref14.variable, assizeref13.Wrong. -/
import Derived.Test.YtaalinhkikmfaaaGp
import Derived.Test.YtaalinhkikmfaaaCb
import Derived.Test.YtaalinhkikmfaaaSg
set_option linter.unusedSimpArgs false
set_option linter.unusedVariables false
namespace Go.Proofs.Ytaalinhkikmfaaa
open Go.RowKit

/-- the kinds that are told apart. -/
theorem kind_cases (k : Int) : k = 1 ∨ k = 2 ∨ k = 3 ∨ k = 4 ∨ (k ≠ 1 ∧ k ≠ 2 ∧ k ≠ 3 ∧ k ≠ 4) := by omega
set_option maxRecDepth 100000 in
set_option maxHeartbeats 8000000 in
theorem refdep_any (a b : Ev) (w : World) : Calls Try.prog 48 #[a.v, b.v] w fun e w' => e = .returned (.bool (dpd a b)) ∧ Below w.heap.size w w' := by
  obtain ⟨at_, ak, ao⟩ := a
  obtain ⟨bt, bk, bo⟩ := b
  unfold Ev.v
  have Hd : Hid (dpd ⟨at_, ak, ao⟩ ⟨bt, bk, bo⟩ = (decide (at_ = bt) || (decide (ao = bo) && ((isMx ak && isMx bk) || (isVr ak && isVr bk && decide (ak = 2 ∨ bk = 2)))))) := Lib.hid rfl
  generalize dpd ⟨at_, ak, ao⟩ ⟨bt, bk, bo⟩ = fb at *
  by_cases ht : at_ = bt
  · have d1 : (at_ == bt) = true := by rw [beq_iff_eq]; exact ht
    have He : Hid (fb = true) := Lib.hid (by rw [Hd.out, decide_eq_true ht]; rfl)
    clear ht Hd
    go_enter Try.func48, Try.ntmps48
    go_wp2_with fail
    go_ret
    exact ⟨by rw [He.out]; rfl, ((Below.refl _ _).alloc (Nat.le_refl _) _).alloc (by simp) _⟩
  have d1 : (at_ == bt) = false := by rw [beq_eq_false_iff_ne]; exact ht
  by_cases ho : ao = bo
  · have d2 : (ao != bo) = false := by rw [bne_eq_false_iff_eq]; exact ho
    have He : Hid (fb = ((isMx ak && isMx bk) || (isVr ak && isVr bk && decide (ak = 2 ∨ bk = 2)))) := Lib.hid (by rw [Hd.out, decide_eq_false ht, decide_eq_true ho]; rfl)
    clear ht ho Hd
    rcases kind_cases ak with rfl | rfl | rfl | rfl | ⟨a1, a2, a3, a4⟩ <;> rcases kind_cases bk with rfl | rfl | rfl | rfl | ⟨b1, b2, b3, b4⟩
    all_goals
      try (have x1 : (ak == 1) = false := by rw [beq_eq_false_iff_ne]; exact a1)
      try (have x2 : (ak == 2) = false := by rw [beq_eq_false_iff_ne]; exact a2)
      try (have x3 : (ak == 3) = false := by rw [beq_eq_false_iff_ne]; exact a3)
      try (have x4 : (ak == 4) = false := by rw [beq_eq_false_iff_ne]; exact a4)
      try (have y1 : (bk == 1) = false := by rw [beq_eq_false_iff_ne]; exact b1)
      try (have y2 : (bk == 2) = false := by rw [beq_eq_false_iff_ne]; exact b2)
      try (have y3 : (bk == 3) = false := by rw [beq_eq_false_iff_ne]; exact b3)
      try (have y4 : (bk == 4) = false := by rw [beq_eq_false_iff_ne]; exact b4)
      go_enter Try.func48, Try.ntmps48
      go_wp2_with fail
      go_ret
      exact ⟨ret_bool (by rw [He.out]; simp [isMx, isVr, *]), ((Below.refl _ _).alloc (Nat.le_refl _) _).alloc (by simp) _⟩
  · have d2 : (ao != bo) = true := by rw [bne_iff_ne]; exact ho
    have He : Hid (fb = false) := Lib.hid (by rw [Hd.out, decide_eq_false ht, decide_eq_false ho]; rfl)
    clear ht ho Hd
    go_enter Try.func48, Try.ntmps48
    go_wp2_with fail
    go_ret
    exact ⟨by rw [He.out]; rfl, ((Below.refl _ _).alloc (Nat.le_refl _) _).alloc (by simp) _⟩
set_option maxRecDepth 100000 in
set_option maxHeartbeats 4000000 in
theorem refwrong1_any (l : List Ev) (m : Nat) (hm : m = l.length) (hl : m ≤ 4611686018427387904) (n : Int) (A : Option Addr) (cap B : Nat) (w : World) (hA : Evs w B A l) (hB : B ≤ w.heap.size) :
    Calls Try.prog 54 #[.slice A m cap, .int .i64 n] w fun e w' => e = .returned (.int .i64 (wrongE l n : Nat)) ∧ Below w.heap.size w w' := by
  have HA := Lib.hid hA; have HM := Lib.hid hm
  have HW : Hid (wrongE l n = if n < 1 ∨ 16 < n then 2 else if 1024 < m then 3 else if badL l n then 2 else 0) := Lib.hid (by rw [hm]; rfl)
  clear hA hm
  by_cases h1 : n < 1
  · have He : Hid (wrongE l n = 2) := Lib.hid (by rw [HW.out, if_pos (.inl h1)])
    have d1 : decide (n < 1) = true := decide_eq_true h1
    go_enter Try.func54, Try.ntmps54
    go_wp2_with fail
    go_ret
    exact ⟨by rw [He.out]; rfl, Below.refl _ _⟩
  have d1 : decide (n < 1) = false := decide_eq_false h1
  by_cases h2 : 16 < n
  · have He : Hid (wrongE l n = 2) := Lib.hid (by rw [HW.out, if_pos (.inr h2)])
    have d2 : decide ((16 : Int) < n) = true := decide_eq_true h2
    go_enter Try.func54, Try.ntmps54
    go_wp2_with fail
    go_ret
    exact ⟨by rw [He.out]; rfl, Below.refl _ _⟩
  have d2 : decide ((16 : Int) < n) = false := decide_eq_false h2
  by_cases h3 : 1024 < m
  · have He : Hid (wrongE l n = 3) := Lib.hid (by rw [HW.out, if_neg (by omega), if_pos h3])
    go_enter Try.func54, Try.ntmps54
    go_wp2_with fail
    go_ret
    exact ⟨by rw [He.out]; rfl, Below.refl _ _⟩
  have He : Hid (wrongE l n = if badL l n then 2 else 0) := Lib.hid (by rw [HW.out, if_neg (by omega), if_neg h3])
  clear HW
  go_enter Try.func54, Try.ntmps54
  go_wp2_with fail
  go_loopw [5] (fun i wr => ∃ k : Nat, k ≤ m ∧ i = .int .i64 k ∧ (∀ j, j < k → badE (ev l j) n = false) ∧ Below w.heap.size w wr) (fun i _ => m - (intOf i).toNat)
  case atStart => exact ⟨0, by omega, rfl, fun j h => by omega, Below.refl _ _⟩
  case round =>
    obtain ⟨k, hk, rfl, hj, hb⟩ := hrel
    have Hj := Lib.hid hj; have Hb := Lib.hid hb
    clear hj hb
    by_cases hlt : k < m
    · obtain ⟨b, off, rfl, hbl, c1, _, _⟩ := HA.out k (by rw [← HM.out]; exact hlt)
      have c1 := (Hb.out.cell (p := ⟨b, off + k * 3, none⟩) (Nat.lt_of_lt_of_le hbl hB)).trans c1
      have Hyes : Hid (badE (ev l k) n = true → badL l n = true) := Lib.hid (badL_yes (by rw [← HM.out]; exact hlt))
      have Hno : Hid (badE (ev l k) n = false → ∀ j, j < k + 1 → badE (ev l j) n = false) := Lib.hid (fun h j hjk => by
        by_cases e : j = k
        · subst e; exact h
        · exact Hj.out j (by omega))
      have HE : Hid (badE (ev l k) n = (decide ((ev l k).t < 0) || decide (n ≤ (ev l k).t))) := Lib.hid rfl
      generalize badE (ev l k) n = bd at *
      generalize (ev l k).t = t at *
      by_cases e1 : t < 0
      · have d3 : decide (t < 0) = true := decide_eq_true e1
        have Hn := Lib.hid (Hyes.out (by rw [HE.out, d3]; rfl))
        go_wp2_with fail
        go_ret
        exact ⟨by rw [He.out, Hn.out]; rfl, Hb.out⟩
      · have d3 : decide (t < 0) = false := decide_eq_false e1
        by_cases e2 : n ≤ t
        · have d4 : decide (n ≤ t) = true := decide_eq_true e2
          have Hn := Lib.hid (Hyes.out (by rw [HE.out, d4]; simp))
          go_wp2_with fail
          go_ret
          exact ⟨by rw [He.out, Hn.out]; rfl, Hb.out⟩
        · have d4 : decide (n ≤ t) = false := decide_eq_false e2
          have Hn := Lib.hid (Hno.out (by rw [HE.out, d3, d4]; rfl))
          go_wp2_with fail
          go_roundw
          case rel => exact ⟨k + 1, by omega, by go_num, Hn.out, Hb.out⟩
          case measure => simp [intOf]; omega
    · obtain rfl : k = m := by omega
      have Hn := Lib.hid (badL_no (l := l) (n := n) (by rw [← HM.out]; exact Hj.out))
      go_wp2_with fail
      go_ret
      exact ⟨by rw [He.out, Hn.out]; rfl, Hb.out⟩
theorem refwrong_any (l : List Ev) (m : Nat) (hm : m = l.length) (hl : m ≤ 4611686018427387904) (n : Int) (A : Option Addr) (cap B : Nat) (w : World) (hA : Evs w B A l) (hB : B ≤ w.heap.size) :
    Calls Try.prog 39 #[.slice A m cap, .int .i64 n] w fun e w' => e = .returned (.int .i64 (wrongE l n : Nat)) ∧ Below w.heap.size w w' := by
  have H := Lib.hid (refwrong1_any l m hm hl n A cap B w hA hB)
  clear hA hm
  generalize wrongE l n = er at *
  go_enter Try.func39, Try.ntmps39
  go_wp2_with fail
  with_reducible refine H.out.mono ?_
  rintro e w1 ⟨rfl, hb⟩
  have HB := Lib.hid hb
  clear hb
  go_wp2_with fail
  go_ret
  exact ⟨rfl, HB.out⟩
end Go.Proofs.Ytaalinhkikmfaaa
