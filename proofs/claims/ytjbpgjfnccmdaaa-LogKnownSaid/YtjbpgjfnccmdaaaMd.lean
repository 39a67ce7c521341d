/- names of files: disk.named. -/
import Derived.Test.YtjbpgjfnccmdaaaMc
set_option linter.unusedSimpArgs false
set_option linter.unusedVariables false
namespace Go.Proofs.Ytjbpgjfnccmdaaa
open Go.RowKit

set_option maxRecDepth 100000 in
set_option maxHeartbeats 2000000 in
theorem index_named (l : List UInt8) (n : Nat) (hn : n = l.length) (hl : n ≤ 1000000000) (A : Option Addr) (cap B : Nat) (w : World) (hA : Bs w B A l) :
    Calls Try.prog 85 #[.slice A n cap, .func (.func 77) #[] #[]] w fun e w' => (∃ i : Int, e = .returned (.int .i64 i) ∧ (decide (0 ≤ i) = !l.all okc)) ∧ w' = w := by
  have HA := Lib.hid hA; have Hn := Lib.hid hn
  clear hA hn
  go_enter Try.func85, Try.ntmps85
  go_wp2_with fail
  go_loopw [8] (fun i wr => ∃ k : Nat, k ≤ n ∧ i = .int .i64 k ∧ (l.take k).all okc = true ∧ wr = w) (fun i _ => n - (intOf i).toNat)
  case atStart => exact ⟨0, by omega, rfl, by simp, rfl⟩
  case round =>
    obtain ⟨k, hk, rfl, hall, rfl⟩ := hrel
    have Hall := Lib.hid hall
    clear hall
    by_cases hlt : k < n
    · have hkl : Hid (k < l.length) := Lib.hid (by have := Hn.out; omega)
      obtain ⟨b, o, rfl, hb, hc⟩ := HA.out k hkl.out
      have H1 := Lib.hid (named1_any (l.getD k 0) wr)
      have Htk : Hid ((l.take (k + 1)).all okc = okc (l.getD k 0)) := Lib.hid (by
        rw [List.take_succ_eq_append_getElem hkl.out, List.all_append, Hall.out]
        simp [List.getD_eq_getElem?_getD, hkl.out])
      go_wp2_with fail
      refine H1.out.mono ?_
      rintro e' w1 ⟨rfl, rfl⟩
      cases hz : okc (l.getD k 0) with
      | true =>
        go_wp2_with fail
        go_roundw
        case rel => exact ⟨k + 1, by omega, by go_num, by rw [Htk.out, hz], trivial⟩
        case measure => simp [intOf]; omega
      | false =>
        have Hf : Hid (l.all okc = false) := Lib.hid (by
          rw [List.all_eq_false]
          exact ⟨l.getD k 0, by simp [List.getD_eq_getElem?_getD, hkl.out], by rw [hz]; decide⟩)
        go_wp2_with fail
        go_ret
        exact ⟨⟨k, rfl, by rw [Hf.out]; simp⟩, rfl⟩
    · obtain rfl : k = n := by omega
      go_wp2_with fail
      go_ret
      exact ⟨⟨-1, rfl, by rw [Hn.out, List.take_length] at Hall; rw [Hall.out]; rfl⟩, rfl⟩
set_option maxRecDepth 100000 in
set_option maxHeartbeats 2000000 in
theorem contains_named (l : List UInt8) (n : Nat) (hn : n = l.length) (hl : n ≤ 1000000000) (A : Option Addr) (cap B : Nat) (w : World) (hA : Bs w B A l) :
    Calls Try.prog 76 #[.slice A n cap, .func (.func 77) #[] #[]] w fun e w' => e = .returned (.bool (!l.all okc)) ∧ w' = w := by
  have Hi := Lib.hid (index_named l n hn hl A cap B w hA)
  clear hA hn
  go_enter Try.func76, Try.ntmps76
  go_wp2_with fail
  refine Hi.out.mono ?_
  rintro e w1 ⟨⟨i, rfl, hi⟩, rfl⟩
  have HI := Lib.hid hi
  clear hi
  go_wp2_with fail
  go_ret
  exact ⟨ret_bool HI.out, rfl⟩
end Go.Proofs.Ytjbpgjfnccmdaaa
