/- a record's frame, and its reference. -/
import Derived.Test.YtjbpgjfnccmdaaaOc
set_option linter.unusedSimpArgs false
set_option linter.unusedVariables false
namespace Go.Proofs.Ytjbpgjfnccmdaaa
open Go.RowKit

set_option maxRecDepth 100000 in
set_option maxHeartbeats 1000000 in
theorem four_any (n : Nat) (z : Int) (hz : z = n) (hn : n < 4294967296) (w : World) :
    Calls Try.prog 47 #[.int .u32 z] w fun e w' => ∃ v, e = .returned v ∧ w'.ownsRow w.heap.size 5 1 v 4 (bcells (beb 4 n)) ∧ Below w.heap.size w w' := by
  subst hz
  go_enter Try.func47, Try.ntmps47
  go_wp2_with fail
  refine (bytes_any n 4 (by omega) (by omega) (by omega) w).mono ?_
  rintro e w1 ⟨v, rfl, ho, hb⟩
  have HO := Lib.hid ho; have HB := Lib.hid hb
  clear ho hb
  go_wp2_with fail
  go_ret
  exact ⟨v, rfl, HO.out, HB.out⟩
theorem bcells_len4 (n : Nat) : (bcells (beb 4 n)).length = 4 := by rw [bcells_length, beb_length]

set_option maxRecDepth 100000 in
set_option maxHeartbeats 1000000 in
theorem frame_any (l : List UInt8) (hl : l.length ≤ 65536) (A : Option Addr) (cap : Nat) (w : World) (hA : Bs w w.heap.size A l) (hA0 : A = none → l = []) :
    Calls Try.prog 15 #[.slice A l.length cap] w fun e w' => ∃ v, e = .returned (.tuple #[v, .int .i64 0]) ∧ w'.ownsRow w.heap.size 5 1 v (l.length + 12) (bcells (frameL l)) ∧ Below w.heap.size w w' := by
  have HA := Lib.hid hA; have HA0 := Lib.hid hA0
  clear hA hA0
  have hx : bits .xor .u32 IntKind.u32.max (l.length : Int) = 4294967295 - (l.length : Int) := by
    have := w32_not' (UInt32.ofNat l.length)
    rw [← w32_not] at this
    simpa [UInt32.toNat_ofNat', Nat.mod_eq_of_lt (show l.length < 4294967296 by omega)] using this
  go_enter Try.func15, Try.ntmps15
  go_wp2_with fail
  refine (four_any l.length _ rfl (by omega) w).mono ?_
  rintro e w1 ⟨v1, rfl, ho1, hb1⟩
  have O1 := Lib.hid ho1; have B1 := Lib.hid hb1
  clear ho1 hb1
  go_wp2_with fail
  refine (four_any (4294967295 - l.length) _ (by omega) (by omega) w1).mono ?_
  rintro e w2 ⟨v2, rfl, ho2, hb2⟩
  obtain ⟨A2, c2, rfl, hr2, hn2, _⟩ := own_rd ho2
  have O1' := Lib.hid (own_below O1.out hb2); have R2 := Lib.hid hr2; have N2 := Lib.hid hn2
  have B2 := Lib.hid (B1.out.trans (hb2.mono B1.out.size))
  clear ho2 hb2 hr2 hn2 hx
  have HA2 := Lib.hid ((HA.out.below B2.out).more B2.out.size)
  have HL0 := Lib.hid (fun h : A = none => show l.length = 0 by rw [HA0.out h]; rfl)
  go_wp2_with (first
    | (at_builtin; refine wpList_append_src E5 rfl (.tmp 12) (.tmp 15) rfl w.heap.size _ 4 (bcells (beb 4 l.length)) rfl O1'.out w2.heap.size A2 (bcells (beb 4 (4294967295 - l.length))) 4 c2 rfl (bcells_len4 _) R2.out N2.out (bcells_one _) (by omega) (by omega) w (Nat.le_refl _) B2.out ?_; intro v3 w3 h2 h3 h4 h5; clear h4 h5; have O3 := Lib.hid h2; have B3 := Lib.hid h3; clear h2 h3 R2 N2 O1'; have HA3 := Lib.hid (HA.out.below B3.out))
    | (at_builtin; refine wpList_append_src E5 rfl (.tmp 16) (.tmp 17) rfl w.heap.size _ (4 + 4) _ rfl O3.out w.heap.size A (bcells l) l.length cap rfl (bcells_length _) HA3.out.rd HL0.out (bcells_one _) (by omega) (by omega) w (Nat.le_refl _) B3.out ?_; intro v4 w4 h2 h3 h4 h5; clear h4 h5; have O4 := Lib.hid h2; have B4 := Lib.hid h3; clear h2 h3 O3))
  refine (check_any l (by omega) A cap w.heap.size _ (HA.out.below B4.out)).mono ?_
  rintro e w5 ⟨rfl, rfl⟩
  go_wp2_with fail
  refine (four_any (check l).toNat _ rfl (u32_lt _) _).mono ?_
  rintro e w6 ⟨v6, rfl, ho6, hb6⟩
  obtain ⟨A6, c6, rfl, hr6, hn6, _⟩ := own_rd ho6
  have O4' := Lib.hid (own_below O4.out hb6); have R6 := Lib.hid hr6; have N6 := Lib.hid hn6
  have B6 := Lib.hid (B4.out.trans (hb6.mono B4.out.size))
  clear ho6 hb6 hr6 hn6
  go_wp2_with (at_builtin; refine wpList_append_src E5 rfl (.tmp 18) (.tmp 21) rfl w.heap.size _ (4 + 4 + l.length) _ rfl O4'.out w6.heap.size A6 (bcells (beb 4 (check l).toNat)) 4 c6 rfl (bcells_len4 _) R6.out N6.out (bcells_one _) (by omega) (by omega) w (Nat.le_refl _) B6.out ?_; intro v7 w7 h2 h3 h4 h5; clear h4 h5; have O7 := Lib.hid h2; have B7 := Lib.hid h3; clear h2 h3 O4')
  go_ret2
  refine ⟨v7, rfl, ?_, B7.out⟩
  have := O7.out
  rw [show 4 + 4 + l.length + 4 = l.length + 12 by omega] at this
  rw [frameL, bcells_app, bcells_app, bcells_app]
  simpa using this
set_option maxRecDepth 100000 in
set_option maxHeartbeats 1000000 in
theorem frame_long (n : Nat) (hl : 65536 < n) (A : Option Addr) (cap : Nat) (w : World) :
    Calls Try.prog 15 #[.slice A n cap] w fun e w' => e = .returned (.tuple #[.slice none 0 0, .int .i64 3]) ∧ w = w' := by
  go_enter Try.func15, Try.ntmps15
  go_wp2_with fail
  go_ret2
  exact ⟨rfl, rfl⟩
end Go.Proofs.Ytjbpgjfnccmdaaa
