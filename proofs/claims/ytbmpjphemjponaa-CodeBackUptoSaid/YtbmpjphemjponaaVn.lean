/- (code.laid).put, value, values. -/
import Derived.Test.YtbmpjphemjponaaVm
import Derived.Test.YtbmpjphemjponaaFp
import Derived.Test.YtbmpjphemjponaaKf
import Derived.Deep.RegionHeld3
set_option linter.unusedSimpArgs false
set_option linter.unusedVariables false
namespace Go.Proofs.Ytbmpjphemjponaa
open Go.RowKit

theorem ELd : El Try.prog 71 5 (.int .u8 0) 1 := ⟨Try.underlying71, by kernel_rfl, rfl⟩
theorem u64_div (n k : Nat) : ((n : Int) / 2 ^ k) % 256 = ((bt n k).toNat : Int) := by
  unfold bt
  rw [UInt8.toNat_ofNat']
  have : ((n : Int) / 2 ^ k) = ((n / 2 ^ k : Nat) : Int) := by simp
  rw [this]; omega
theorem beb_next (n size k : Nat) (h : k < size) : beb k (n / 256 ^ (size - k)) ++ [bt n (8 * (size - 1 - k))] = beb (k + 1) (n / 256 ^ (size - (k + 1))) := by
  unfold bt
  rw [beb, Nat.div_div_eq_div_mul, ← Nat.pow_succ, show (size - (k + 1)).succ = size - k by omega, show size - 1 - k = size - (k + 1) by omega, Nat.pow_mul]
/-- what has been laid: own bytes; but for the row's own block all is as it was. -/
def Laid (w : World) (base : Nat) (v0 : Value) (n : Nat) (l : List UInt8) (v : Value) (w' : World) : Prop := w'.ownsRow base 5 1 v n (bcells l) ∧ Below base w w' ∧ w.grownBy w' v0.ownBlock ∧ (v.ownBlock = v0.ownBlock ∨ ∀ k, v.ownBlock = some k → w.heap.size ≤ k)
def GotL (w : World) (base : Nat) (v0 : Value) (n : Nat) (l : List UInt8) (e : Ending) (w' : World) : Prop := ∃ v, e = .returned v ∧ Laid w base v0 n l v w'
theorem grown_chain {a b c : World} {r0 r1 : Option Nat} (h : a.grownBy b r0) (h1 : r1 = r0 ∨ ∀ k, r1 = some k → a.heap.size ≤ k) (h2 : b.grownBy c r1) : a.grownBy c r0 :=
  ⟨h2.os.trans h.os, h2.tape.trans h.tape, h2.output.trans h.output, Nat.le_trans h.size h2.size, fun i hi hne => (h2.block i (Nat.lt_of_lt_of_le hi h.size) (fun e => by
    rcases h1 with h1 | h1
    · exact hne (e.trans h1)
    · have := h1 i e.symm; omega)).trans (h.block i hi hne)⟩
theorem Laid.refl {w : World} {base n : Nat} {v : Value} {l : List UInt8} (h : w.ownsRow base 5 1 v n (bcells l)) : Laid w base v n l v w := ⟨h, Below.refl _ _, World.grownBy.refl w _, .inl rfl⟩
theorem Laid.trans {w w1 w2 : World} {base n1 n2 : Nat} {v0 v1 v2 : Value} {l1 l2 : List UInt8} (h : Laid w base v0 n1 l1 v1 w1) (h2 : Laid w1 base v1 n2 l2 v2 w2) : Laid w base v0 n2 l2 v2 w2 := by
  refine ⟨h2.1, h.2.1.trans h2.2.1, grown_chain h.2.2.1 h.2.2.2 h2.2.2.1, ?_⟩
  rcases h2.2.2.2 with e | e
  · rw [e]; exact h.2.2.2
  · exact .inr fun k hk => Nat.le_trans h.2.2.1.size (e k hk)
set_option maxRecDepth 100000 in
set_option maxHeartbeats 1000000 in
theorem put_any (x size : Nat) (hx : x < 18446744073709551616) (h8 : size ≤ 8) (base : Nat) (v : Value) (n : Nat) (l : List UInt8) (hn : n ≤ 1000000000) (w : World) (hown : w.ownsRow base 5 1 v n (bcells l)) (hB : base ≤ w.heap.size) :
    Calls Try.prog 38 #[v, .int .u64 x, .int .i64 size] w (GotL w base v (n + size) (l ++ beb size x)) := by
  clear hx
  have HO := Lib.hid hown
  clear hown
  go_enter Try.func38, Try.ntmps38
  go_wp2_with fail
  go_loopw [0, 7] (fun u i wr => ∃ k : Nat, k ≤ size ∧ i = .int .i64 ((size : Int) - 1 - k) ∧ Laid w base v (n + k) (l ++ beb k (x / 256 ^ (size - k))) u wr) (fun _ i _ => (intOf i + 1).toNat)
  case atStart => exact ⟨0, by omega, by simp, by simpa [beb] using Laid.refl HO.out⟩
  case round =>
    obtain ⟨k, hk, rfl, hl⟩ := hrel
    have Hl := Lib.hid hl
    have Hown := Lib.hid hl.1
    clear hl
    by_cases hlt : k < size
    · have e1 : (8 * ((size : Int) - 1 - k)).toNat = 8 * (size - 1 - k) := by omega
      have hby := u64_div x (8 * (size - 1 - k))
      have Hn := Lib.hid (beb_next x size k hlt)
      go_wp2_with (at_builtin; refine wpList_append_one0 ELd rfl (.tmp 14) (.tmp 20) rfl base _ rfl _ (n + k) _ rfl Hown.out rfl (by omega) (by omega) wr (Nat.le_trans hB Hl.out.2.2.1.size) (Below.refl _ _) ?_; intro v' w' h2 h3 h4 h5; have H2 := Lib.hid h2; have H3 := Lib.hid h3; have H4 := Lib.hid h4; have H5 := Lib.hid h5; clear h2 h3 h4 h5)
      go_roundw
      case rel => exact ⟨k + 1, by omega, by go_num, Hl.out.trans ⟨by rw [← Hn.out, ← List.append_assoc, bcells_app]; exact H2.out, H3.out, H4.out, H5.out.imp_right fun e k hk => by rw [e] at hk; injection hk with hk; omega⟩⟩
      case measure => simp [intOf]; omega
    · obtain rfl : k = size := by omega
      go_wp2_with fail
      go_ret
      exact ⟨_, rfl, by simpa using Hl.out⟩
end Go.Proofs.Ytbmpjphemjponaa
