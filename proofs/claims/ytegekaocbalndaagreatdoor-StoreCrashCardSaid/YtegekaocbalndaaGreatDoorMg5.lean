/- several texts in one: names of files: disk.named., names of files: disk.named., names of files: disk.named., slices.Grow of no bytes., slices.Concat of two rows of bytes. -/
import Derived.Test.YtegekaocbalndaaGreatDoorMb
import Derived.Laws.IdiomStrings
import Derived.Lib.AppendZerosOnto
import Derived.Lib.SliceRun
section
set_option linter.unusedSimpArgs false
set_option linter.unusedVariables false
namespace Go.Proofs.YtegekaocbalndaaGreatDoor
open Go.RowKit

set_option maxRecDepth 100000 in
set_option maxHeartbeats 2000000 in
theorem named1_any (c : UInt8) (w : World) : Calls Tryz.prog 86 #[.int .u8 c.toNat] w fun e w' => e = .returned (.bool (!okc c)) ∧ w' = w := by
  have hz : ∀ z, (decide (97 ≤ c.toNat ∧ c.toNat ≤ 122) || decide (48 ≤ c.toNat ∧ c.toNat ≤ 57) || decide (c.toNat = 46) || decide (c.toNat = 45)) = z → okc c = z := fun z h => h
  generalize okc c = y at *
  generalize c.toNat = n at *
  have hcase : n < 45 ∨ n = 45 ∨ n = 46 ∨ n = 47 ∨ (48 ≤ n ∧ n ≤ 57) ∨ (58 ≤ n ∧ n ≤ 96) ∨ (97 ≤ n ∧ n ≤ 122) ∨ 123 ≤ n := by omega
  go_enter Tryz.func86, Tryz.ntmps86
  rcases hcase with h | rfl | rfl | rfl | ⟨h, h'⟩ | ⟨h, h'⟩ | ⟨h, h'⟩ | h
  · obtain rfl := hz false (by simp; omega)
    clear hz
    have f0 : (n : Int) < 97 := by first | omega | (rw [bne_iff_ne]; omega)
    have f1 : (n : Int) < 48 := by first | omega | (rw [bne_iff_ne]; omega)
    have f2 : ((n : Int) != 46) = true := by first | omega | (rw [bne_iff_ne]; omega)
    have f3 : ((n : Int) != 45) = true := by first | omega | (rw [bne_iff_ne]; omega)
    go_wp2_with fail
    go_ret
    exact ⟨rfl, rfl⟩
  · obtain rfl := hz true (by decide)
    clear hz
    go_wp2_with fail
    go_ret
    exact ⟨rfl, rfl⟩
  · obtain rfl := hz true (by decide)
    clear hz
    go_wp2_with fail
    go_ret
    exact ⟨rfl, rfl⟩
  · obtain rfl := hz false (by decide)
    clear hz
    go_wp2_with fail
    go_ret
    exact ⟨rfl, rfl⟩
  · obtain rfl := hz true (by simp; omega)
    clear hz
    have f0 : (n : Int) < 97 := by first | omega | (rw [bne_iff_ne]; omega)
    have f1 : ¬ (n : Int) < 48 := by first | omega | (rw [bne_iff_ne]; omega)
    have f2 : ¬ 57 < (n : Int) := by first | omega | (rw [bne_iff_ne]; omega)
    go_wp2_with fail
    go_ret
    exact ⟨rfl, rfl⟩
  · obtain rfl := hz false (by simp; omega)
    clear hz
    have f0 : (n : Int) < 97 := by first | omega | (rw [bne_iff_ne]; omega)
    have f1 : ¬ (n : Int) < 48 := by first | omega | (rw [bne_iff_ne]; omega)
    have f2 : 57 < (n : Int) := by first | omega | (rw [bne_iff_ne]; omega)
    have f3 : ((n : Int) != 46) = true := by first | omega | (rw [bne_iff_ne]; omega)
    have f4 : ((n : Int) != 45) = true := by first | omega | (rw [bne_iff_ne]; omega)
    go_wp2_with fail
    go_ret
    exact ⟨rfl, rfl⟩
  · obtain rfl := hz true (by simp; omega)
    clear hz
    have f0 : ¬ (n : Int) < 97 := by first | omega | (rw [bne_iff_ne]; omega)
    have f1 : ¬ 122 < (n : Int) := by first | omega | (rw [bne_iff_ne]; omega)
    go_wp2_with fail
    go_ret
    exact ⟨rfl, rfl⟩
  · obtain rfl := hz false (by simp; omega)
    clear hz
    have f0 : ¬ (n : Int) < 97 := by first | omega | (rw [bne_iff_ne]; omega)
    have f1 : 122 < (n : Int) := by first | omega | (rw [bne_iff_ne]; omega)
    have f2 : ¬ (n : Int) < 48 := by first | omega | (rw [bne_iff_ne]; omega)
    have f3 : 57 < (n : Int) := by first | omega | (rw [bne_iff_ne]; omega)
    have f4 : ((n : Int) != 46) = true := by first | omega | (rw [bne_iff_ne]; omega)
    have f5 : ((n : Int) != 45) = true := by first | omega | (rw [bne_iff_ne]; omega)
    go_wp2_with fail
    go_ret
    exact ⟨rfl, rfl⟩
end Go.Proofs.YtegekaocbalndaaGreatDoor
end

section
set_option linter.unusedSimpArgs false
set_option linter.unusedVariables false
namespace Go.Proofs.YtegekaocbalndaaGreatDoor
open Go.RowKit

set_option maxRecDepth 100000 in
set_option maxHeartbeats 2000000 in
theorem index_named (l : List UInt8) (n : Nat) (hn : n = l.length) (hl : n ≤ 1000000000) (A : Option Addr) (cap B : Nat) (w : World) (hA : Bs w B A l) :
    Calls Tryz.prog 93 #[.slice A n cap, .func (.func 86) #[] #[]] w fun e w' => (∃ i : Int, e = .returned (.int .i64 i) ∧ (decide (0 ≤ i) = !l.all okc)) ∧ w' = w := by
  have HA := Lib.hid hA; have Hn := Lib.hid hn
  clear hA hn
  go_enter Tryz.func93, Tryz.ntmps93
  go_wp2_with fail
  go_loopw [8] (fun i wr => ∃ k : Nat, k ≤ n ∧ i = .int .i64 k ∧ (l.take k).all okc = true ∧ wr = w) (fun i _ => n - (intOf i).toNat)
  case atStart => exact ⟨0, by omega, rfl, by simp, rfl⟩
  case round =>
    obtain ⟨k, hk, rfl, hall, rfl⟩ := hrel
    have Hall := Lib.hid hall
    clear hall
    by_cases hlt : k < n
    · have hkl : Hid (k < l.length) := Lib.hid (by have := Hn.out; omega)
      obtain ⟨b, o, rfl, hb, hc⟩ := HA.out k hkl.out
      have H1 := Lib.hid (named1_any (l.getD k 0) wr)
      have Htk : Hid ((l.take (k + 1)).all okc = okc (l.getD k 0)) := Lib.hid (by
        rw [List.take_succ_eq_append_getElem hkl.out, List.all_append, Hall.out]
        simp [List.getD_eq_getElem?_getD, hkl.out])
      go_wp2_with fail
      refine H1.out.mono ?_
      rintro e' w1 ⟨rfl, rfl⟩
      cases hz : okc (l.getD k 0) with
      | true =>
        go_wp2_with fail
        go_roundw
        case rel => exact ⟨k + 1, by omega, by go_num, by rw [Htk.out, hz], trivial⟩
        case measure => simp [intOf]; omega
      | false =>
        have Hf : Hid (l.all okc = false) := Lib.hid (by
          rw [List.all_eq_false]
          exact ⟨l.getD k 0, by simp [List.getD_eq_getElem?_getD, hkl.out], by rw [hz]; decide⟩)
        go_wp2_with fail
        go_ret
        exact ⟨⟨k, rfl, by rw [Hf.out]; simp⟩, rfl⟩
    · obtain rfl : k = n := by omega
      go_wp2_with fail
      go_ret
      exact ⟨⟨-1, rfl, by rw [Hn.out, List.take_length] at Hall; rw [Hall.out]; rfl⟩, rfl⟩
set_option maxRecDepth 100000 in
set_option maxHeartbeats 2000000 in
theorem contains_named (l : List UInt8) (n : Nat) (hn : n = l.length) (hl : n ≤ 1000000000) (A : Option Addr) (cap B : Nat) (w : World) (hA : Bs w B A l) :
    Calls Tryz.prog 85 #[.slice A n cap, .func (.func 86) #[] #[]] w fun e w' => e = .returned (.bool (!l.all okc)) ∧ w' = w := by
  have Hi := Lib.hid (index_named l n hn hl A cap B w hA)
  clear hA hn
  go_enter Tryz.func85, Tryz.ntmps85
  go_wp2_with fail
  refine Hi.out.mono ?_
  rintro e w1 ⟨⟨i, rfl, hi⟩, rfl⟩
  have HI := Lib.hid hi
  clear hi
  go_wp2_with fail
  go_ret
  exact ⟨ret_bool HI.out, rfl⟩
end Go.Proofs.YtegekaocbalndaaGreatDoor
end

section
set_option linter.unusedSimpArgs false
set_option linter.unusedVariables false
namespace Go.Proofs.YtegekaocbalndaaGreatDoor
open Go.RowKit

theorem str_len (l : Nm) : (str l).size = l.length := rfl
theorem str_data (l : Nm) : (str l).data = l.toArray := rfl
/-- '[]byte(s)'. -/
theorem run_bytes_str {P : Program} (w : World) (src dst e : TypeId) (l : Nm) (h1 : P.underlying src = some .string) (h2 : P.underlying dst = some (.slice e)) (h3 : P.underlying e = some (.int .u8)) :
    ∃ cap w', (convert src dst (.string (str l))).run P w = .ok (.slice (some ⟨w.heap.size, 0, none⟩) l.length cap) w' ∧ Bs w' w'.heap.size (some ⟨w.heap.size, 0, none⟩) l ∧ Below w.heap.size w w' := by
  refine ⟨_, _, run_bytes_of_string w src dst e (str l) h1 h2 h3, fun j hj => ?_, ?_⟩
  · refine ⟨w.heap.size, 0, rfl, ?_, ?_⟩
    · simp
    · have hb := heap_alloc_new w.drew (.cells (bytesRow (str l) (grownCap w (str l).size 0 e)) e ((bytesRow (str l) (grownCap w (str l).size 0 e)).size, (bytesRow (str l) (grownCap w (str l).size 0 e)).size + 1))
      have hc := cell_of_row (w.drew.alloc (.cells (bytesRow (str l) (grownCap w (str l).size 0 e)) e ((bytesRow (str l) (grownCap w (str l).size 0 e)).size, (bytesRow (str l) (grownCap w (str l).size 0 e)).size + 1))) w.heap.size (0 + j) _ e _ hb
      rw [hc]
      unfold bytesRow
      rw [Array.getElem?_append_left (by simp [str_data]; omega)]
      simp [str_data, List.getD_eq_getElem?_getD, hj]
  · exact ((Below.refl _ _).drew).alloc (Nat.le_refl _) _
set_option maxRecDepth 100000 in
set_option maxHeartbeats 1000000 in
theorem named_any (l : Nm) (hl : l.length ≤ 9223372036854775807) (w : World) : Calls Tryz.prog 70 #[.string (str l)] w fun e w' => e = .returned (.bool (nameOk l)) ∧ Below w.heap.size w w' := by
  have hs := str_len l
  obtain ⟨cap, w1, hc, hb, hw⟩ := run_bytes_str (P := Tryz.prog) w 9 30 5 l Tryz.underlying9 Tryz.underlying30 Tryz.underlying5
  have Hb := Lib.hid hb; have Hw := Lib.hid hw
  clear hb hw
  by_cases h1 : 1 ≤ l.length ∧ l.length ≤ 40
  · have Hi := Lib.hid (contains_named l _ rfl (by omega) (some ⟨w.heap.size, 0, none⟩) cap _ w1 Hb.out)
    have Hz : Hid (nameOk l = l.all okc) := Lib.hid (by unfold nameOk; rw [decide_eq_true h1.1, decide_eq_true h1.2]; rfl)
    obtain ⟨h1, h2⟩ := h1
    go_enter Tryz.func70, Tryz.ntmps70
    go_wp2_with fail
    refine Hi.out.mono ?_
    rintro e w2 ⟨rfl, rfl⟩
    go_wp2_with fail
    go_ret
    exact ⟨ret_bool (by rw [Hz.out]), Hw.out⟩
  · have Hz : Hid (nameOk l = false) := Lib.hid (by unfold nameOk; rcases Nat.lt_or_ge l.length 1 with h | h
                                                    · rw [decide_eq_false (show ¬ 1 ≤ l.length by omega)]; rfl
                                                    · rw [decide_eq_false (show ¬ l.length ≤ 40 by omega)]; simp)
    clear hc
    have hcase : l.length < 1 ∨ 40 < l.length := by omega
    go_enter Tryz.func70, Tryz.ntmps70
    rcases hcase with h | h
    · clear h1
      go_wp2_with fail
      go_ret
      exact ⟨ret_bool (by rw [Hz.out]), Below.refl _ _⟩
    · clear h1
      have h2 : ¬ l.length < 1 := by omega
      go_wp2_with fail
      go_ret
      exact ⟨ret_bool (by rw [Hz.out]), Below.refl _ _⟩
end Go.Proofs.YtegekaocbalndaaGreatDoor
end

section
set_option linter.unusedSimpArgs false
set_option linter.unusedVariables false
namespace Go.Proofs.YtegekaocbalndaaGreatDoor
open Go.RowKit

set_option maxRecDepth 100000 in
set_option maxHeartbeats 1000000 in
theorem grow_nil (n : Nat) (hn : n ≤ 1000000000) (w : World) : Calls Tryz.prog 87 #[.slice none 0 0, .int .i64 n] w fun e w' => ∃ v, e = .returned v ∧ w'.ownsRow w.heap.size 5 1 v 0 [] ∧ Below w.heap.size w w' := by
  rcases Nat.eq_zero_or_pos n with h0 | h0
  · subst h0
    go_enter Tryz.func87, Tryz.ntmps87
    go_wp2_with fail
    go_ret
    exact ⟨_, rfl, World.ownsRow_nil _ _ _ _, Below.refl _ _⟩
  · obtain ⟨ti, hi, hz0, hz1, hz2⟩ := info_parts E5.hi
    have hr := Lib.run_append_nil_zeros (P := Tryz.prog) w 30 3 30 5 ti (.int .u8 0) .i64 .i64 Tryz.underlying30 Tryz.underlying3 hi hz0 n h0 (by omega) (by omega) (by rw [hz2]; omega)
    have hg := Go.grownCap_ge w n 0 5
    have hm := Go.grownCap_le_maxLen w n 0 5
    have Hr := Lib.hid hr; have Hg := Lib.hid hg; have Hm := Lib.hid hm
    clear hi hz0 hz1 hz2 hr hg hm
    go_enter Tryz.func87, Tryz.ntmps87
    go_wp2_with (at_builtin; refine Lib.wpList_append_run w rfl (.tmp 20) (.tmp 21) _ _ rfl _ _ rfl rfl _ _ Hr.out ?_)
    go_ret
    refine ⟨_, rfl, ⟨rfl, .inr ⟨w.heap.size, grownCap w n 0 5, _, rfl, Nat.le_refl _, heap_alloc_new w _, Nat.zero_le _, Hm.out (by have : maxLen = 9223372036854775807 := rfl; omega), ?_, by simp⟩⟩, ((Below.refl _ _).alloc (Nat.le_refl _) _).drew⟩
    have := Hg.out
    simp [Builtin.zeroCells]
    omega
end Go.Proofs.YtegekaocbalndaaGreatDoor
end

section
set_option linter.unusedSimpArgs false
set_option linter.unusedVariables false
namespace Go.Proofs.YtegekaocbalndaaGreatDoor
open Go.RowKit

def two {α : Type} (a b : α) (k : Nat) : α := if k = 0 then a else b
set_option maxRecDepth 100000 in
set_option maxHeartbeats 2000000 in
theorem concat_at (g : Nat) (a b : List UInt8) (n m : Nat) (hn : n = a.length) (hm : m = b.length) (ha : n ≤ 100000000) (hb : m ≤ 100000000) (A C : Option Addr) (ca cb : Nat) (w : World) (h0 : w.cell? ⟨g, 0, none⟩ = some (.slice A n ca)) (h1 : w.cell? ⟨g, 1, none⟩ = some (.slice C m cb)) (hg : g < w.heap.size) (hA : Bs w w.heap.size A a) (hC : Bs w w.heap.size C b) (hA0 : A = none → a = []) (hC0 : C = none → b = []) :
    Calls Tryz.prog 73 #[.slice (some ⟨g, 0, none⟩) 2 2] w fun e w' => ∃ v, e = .returned v ∧ w'.ownsRow w.heap.size 5 1 v (n + m) (bcells (a ++ b)) ∧ Below w.heap.size w w' := by
  have HA := Lib.hid hA; have HC := Lib.hid hC; have Hn := Lib.hid hn; have Hm := Lib.hid hm; have HA0 := Lib.hid hA0; have HC0 := Lib.hid hC0
  have H0 := Lib.hid h0; have H1 := Lib.hid h1
  clear hA hC hn hm hA0 hC0 h0 h1
  go_enter Tryz.func73, Tryz.ntmps73
  go_wp2_with fail
  generalize hs : n + m = s at *
  have HS := Lib.hid hs
  clear hs
  go_loopw [3, 5, 11] (fun sv _ iv wr => w = wr ∧ ((sv = .int .i64 0 ∧ iv = .int .i64 0) ∨ (sv = .int .i64 n ∧ iv = .int .i64 1) ∨ (sv = .int .i64 s ∧ iv = .int .i64 2))) (fun _ _ iv _ => 2 - (intOf iv).toNat)
  case atStart => exact ⟨rfl, .inl ⟨rfl, rfl⟩⟩
  case round =>
    obtain ⟨rfl, ⟨rfl, rfl⟩ | ⟨rfl, rfl⟩ | ⟨rfl, rfl⟩⟩ := hrel
    · have h0 := H0.out
      go_wp2_with fail
      go_roundw
      case rel => exact ⟨trivial, .inr (.inl ⟨by go_num, by go_num⟩)⟩
      case measure => simp [intOf]
    · have h1 := H1.out
      go_wp2_with fail
      go_roundw
      case rel => exact ⟨trivial, .inr (.inr ⟨by rw [← HS.out]; go_num, by go_num⟩)⟩
      case measure => simp [intOf]
    · have HG := Lib.hid (grow_nil s (by have := HS.out; omega) w)
      go_wp2_with fail
      refine HG.out.mono ?_
      rintro e w1 ⟨v, rfl, ho, hbl⟩
      have HO := Lib.hid ho; have HB := Lib.hid hbl
      clear ho hbl
      go_wp2_with fail
      go_loopw [6, 8, 27] (fun v _ iv wk => Below w.heap.size w wk ∧ ((iv = .int .i64 0 ∧ wk.ownsRow w.heap.size 5 1 v 0 []) ∨ (iv = .int .i64 1 ∧ wk.ownsRow w.heap.size 5 1 v n (bcells a)) ∨ (iv = .int .i64 2 ∧ wk.ownsRow w.heap.size 5 1 v s (bcells (a ++ b))))) (fun _ _ iv _ => 2 - (intOf iv).toNat)
      case atStart => exact ⟨HB.out, .inl ⟨rfl, HO.out⟩⟩
      case round =>
        obtain ⟨hb2, ⟨rfl, ho⟩ | ⟨rfl, ho⟩ | ⟨rfl, ho⟩⟩ := hrel
        · have HB2 := Lib.hid hb2; have HO2 := Lib.hid ho
          have h0 := (HB2.out.cell (p := ⟨g, 0, none⟩) hg).trans H0.out
          clear hb2 ho
          go_wp2_with (at_builtin; refine wpList_append_src E5 rfl (.tmp 31) (.tmp 32) rfl w.heap.size _ 0 [] rfl HO2.out w.heap.size A (bcells a) n ca rfl (by rw [bcells_length, Hn.out]) ((HA.out.below HB2.out).rd) (fun h => by rw [Hn.out, HA0.out h]; rfl) (bcells_one a) (by omega) (by omega) w (Nat.le_refl _) HB2.out ?_; intro v' w' h2 h3 h4 h5; clear h4 h5; have H2 := Lib.hid h2; have H3 := Lib.hid h3; clear h2 h3)
          go_roundw
          case rel => exact ⟨H3.out, .inr (.inl ⟨by go_num, by simpa using H2.out⟩)⟩
          case measure => simp [intOf]
        · have HB2 := Lib.hid hb2; have HO2 := Lib.hid ho
          have h1 := (HB2.out.cell (p := ⟨g, 1, none⟩) hg).trans H1.out
          clear hb2 ho
          go_wp2_with (at_builtin; refine wpList_append_src E5 rfl (.tmp 31) (.tmp 32) rfl w.heap.size _ n (bcells a) rfl HO2.out w.heap.size C (bcells b) m cb rfl (by rw [bcells_length, Hm.out]) ((HC.out.below HB2.out).rd) (fun h => by rw [Hm.out, HC0.out h]; rfl) (bcells_one b) (by omega) (by omega) w (Nat.le_refl _) HB2.out ?_; intro v' w' h2 h3 h4 h5; clear h4 h5; have H2 := Lib.hid h2; have H3 := Lib.hid h3; clear h2 h3)
          go_roundw
          case rel => exact ⟨H3.out, .inr (.inr ⟨by go_num, by rw [← HS.out, bcells_app]; exact H2.out⟩)⟩
          case measure => simp [intOf]
        · have HB2 := Lib.hid hb2; have HO2 := Lib.hid ho
          clear hb2 ho
          go_wp2_with fail
          go_ret
          exact ⟨_, rfl, by rw [HS.out]; exact HO2.out, HB2.out⟩
end Go.Proofs.YtegekaocbalndaaGreatDoor
end
