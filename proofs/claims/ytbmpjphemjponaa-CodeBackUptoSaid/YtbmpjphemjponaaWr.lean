/- (*code.reader).number, value. -/
import Derived.Test.YtbmpjphemjponaaWq
import Derived.Test.YtbmpjphemjponaaVh
import Derived.Test.YtbmpjphemjponaaBx
set_option linter.unusedSimpArgs false
set_option linter.unusedVariables false
namespace Go.Proofs.Ytbmpjphemjponaa
open Go.RowKit


theorem wrap64_eq (n : Int) : IntKind.i64.wrap n = wrap64 n := by rw [IntKind.wrap_i64]; unfold wrap64; with_reducible rfl
/-- a reader in memory, its bytes in blocks below its own. -/
def RdS (w : World) (g : Nat) (s : Rst) : Prop := ∃ (A : Option Addr) (cap : Nat), w.heap[g]? = some (.cells #[.slice A s.1.length cap, .bool s.2] 78 (0, 0)) ∧ Bs w g A s.1 ∧ (A = none → s.1 = []) ∧ s.1.length ≤ cap ∧ s.1.length ≤ 1000000000
/-- but for the reader all is as it was. -/
def RK (g : Nat) (w w' : World) : Prop := Spares 78 w w' ∧ Below g w w'
theorem Spares.refl (T : TypeId) (w : World) : Spares T w w := ⟨Nat.le_refl _, fun _ _ _ _ _ h => h⟩
theorem Spares.tr {T : TypeId} {a b c : World} (h1 : Spares T a b) (h2 : Spares T b c) : Spares T a c := ⟨Nat.le_trans h1.1 h2.1, fun g cs e fz hne hg => h2.2 g cs e fz hne (h1.2 g cs e fz hne hg)⟩
theorem Spares.of_below {T : TypeId} {w w' : World} (h : Below w.heap.size w w') : Spares T w w' := ⟨h.size, fun g cs e fz _ hg => (h.block g (lt_blk hg)).trans hg⟩
theorem RK.refl (g : Nat) (w : World) : RK g w w := ⟨Spares.refl _ _, Below.refl _ _⟩
theorem RK.trans {g : Nat} {a b c : World} (h1 : RK g a b) (h2 : RK g b c) : RK g a c := ⟨h1.1.tr h2.1, h1.2.trans h2.2⟩
theorem RK.of_below {g : Nat} {w w' : World} (h : Below w.heap.size w w') (hg : g ≤ w.heap.size) : RK g w w' := ⟨Spares.of_below h, h.mono hg⟩
theorem RK.blk {g : Nat} {w w' : World} (h : RK g w w') {b : Nat} {cs : Array Value} {e : TypeId} (hne : e ≠ 78) (hb : w.heap[b]? = some (.cells cs e (0, 0))) : w'.heap[b]? = some (.cells cs e (0, 0)) := h.1.2 b cs e (0, 0) hne hb
theorem RdS.lt {w : World} {g : Nat} {s : Rst} (h : RdS w g s) : g < w.heap.size := by
  obtain ⟨A, cap, h1, _⟩ := h
  exact lt_blk h1
theorem RdS.below {w w' : World} {g : Nat} {s : Rst} (h : RdS w g s) (hb : Below w.heap.size w w') : RdS w' g s := by
  have hl := h.lt
  obtain ⟨A, cap, h1, h2, h3⟩ := h
  exact ⟨A, cap, (hb.block g hl).trans h1, h2.below (hb.mono (Nat.le_of_lt hl)), h3⟩
set_option maxRecDepth 100000 in
set_option maxHeartbeats 2000000 in
theorem number_bad (k : Nat) (hk : k ≤ 8) (s : Rst) (h : s.2 = true ∨ s.1.length < k) (g : Nat) (w : World) (hs : RdS w g s) :
    Calls Try.prog 43 #[.pointer (some ⟨g, 0, none⟩), .int .i64 k] w fun e w' => e = .returned (.int .i64 0) ∧ RdS w' g (s.1, true) ∧ RK g w w' := by
  obtain ⟨A, cap, h1, h2, h3, h4, h5⟩ := hs
  have H1 := Lib.hid h1; have H2 := Lib.hid h2; have H3 := Lib.hid h3
  have HF : Hid (RdS (w.setCell ⟨g, 1, none⟩ (.bool true)) g (s.1, true) ∧ RK g w (w.setCell ⟨g, 1, none⟩ (.bool true))) := Lib.hid (by
    have hg := set1 h1 1 (.bool true)
    have hb : Below g w (w.setCell ⟨g, 1, none⟩ (.bool true)) := (Below.refl _ _).grown hg.2 (Nat.le_of_lt (lt_blk h1)) (fun j hj => by injection hj with hj; omega)
    exact ⟨⟨A, cap, hg.1.trans rfl, h2.below hb, h3, h4, h5⟩, Spares.own_blk hg.2 h1, hb⟩)
  have c0 : w.cell? ⟨g, 0, none⟩ = some (.slice A s.1.length cap) := by rw [cell_blk h1]; rfl
  have c1 : w.cell? ⟨g, 1, none⟩ = some (.bool s.2) := by rw [cell_blk h1]; rfl
  have fz : w.frozen? ⟨g, 1, none⟩ = false := free_blk h1 1
  clear h1 h2 h3
  obtain ⟨l, bad⟩ := s
  dsimp only at *
  generalize l.length = n at *
  go_enter Try.func43, Try.ntmps43
  cases bad
  · have hlt : n < k := by simpa using h
    have d : decide ((n : Int) < k) = true := decide_eq_true (by omega)
    go_wp2_with fail
    go_ret
    exact ⟨rfl, HF.out⟩
  · go_wp2_with fail
    go_ret
    exact ⟨rfl, HF.out⟩
set_option maxRecDepth 100000 in
set_option maxHeartbeats 2000000 in
theorem number_ok (k : Nat) (hk1 : 1 ≤ k) (hk : k ≤ 8) (l : List UInt8) (hl : k ≤ l.length) (g : Nat) (w : World) (hs : RdS w g (l, false)) :
    Calls Try.prog 43 #[.pointer (some ⟨g, 0, none⟩), .int .i64 k] w fun e w' => e = .returned (.int .i64 (IntKind.i64.wrap (num (l.take k) : Nat))) ∧ RdS w' g (l.drop k, false) ∧ RK g w w' := by
  obtain ⟨A, cap, h1, h2, h3, h4, h5⟩ := hs
  dsimp only at *
  obtain ⟨b, off, rfl, hb, -⟩ := h2 0 (by omega)
  have HB : Hid (∀ j, j < l.length → w.cell? ⟨b, off + j, none⟩ = some (.int .u8 (l.getD j 0).toNat)) := Lib.hid (fun j hj => by
    obtain ⟨b', off', e, _, h⟩ := h2 j hj
    injection e with e; injection e with e1 e2 e3; subst e1 e2; exact h)
  have c0 : w.cell? ⟨g, 0, none⟩ = some (.slice (some ⟨b, off, none⟩) l.length cap) := by rw [cell_blk h1]; rfl
  have c1 : w.cell? ⟨g, 1, none⟩ = some (.bool false) := by rw [cell_blk h1]; rfl
  have fz : w.frozen? ⟨g, 0, none⟩ = false := free_blk h1 0
  have HF : Hid (∀ o c, (l.drop k = [] ∨ o = off + k) → l.length - k ≤ c → RdS (w.setCell ⟨g, 0, none⟩ (.slice (some ⟨b, o, none⟩) (l.length - k) c)) g (l.drop k, false) ∧ RK g w (w.setCell ⟨g, 0, none⟩ (.slice (some ⟨b, o, none⟩) (l.length - k) c))) := Lib.hid (fun o c ho hc => by
    have hg := set1 h1 0 (.slice (some ⟨b, o, none⟩) (l.length - k) c)
    have hbl : Below g w (w.setCell ⟨g, 0, none⟩ (.slice (some ⟨b, o, none⟩) (l.length - k) c)) := (Below.refl _ _).grown hg.2 (Nat.le_of_lt (lt_blk h1)) (fun j hj => by injection hj with hj; omega)
    refine ⟨⟨some ⟨b, o, none⟩, c, ?_, ?_, fun h => (by cases h), ?_, ?_⟩, Spares.own_blk hg.2 h1, hbl⟩
    · rw [List.length_drop]; exact hg.1.trans rfl
    · intro j hj
      refine ⟨b, o, rfl, hb, ?_⟩
      rcases ho with ho | ho
      · dsimp only at hj; rw [ho] at hj; exact absurd hj (Nat.not_lt_zero _)
      · rw [List.length_drop] at hj
        rw [hbl.cell (p := ⟨b, _, none⟩) hb, ho, Nat.add_assoc, HB.out (k + j) (by omega)]
        simp [List.getD_eq_getElem?_getD]
    · rw [List.length_drop]; exact hc
    · rw [List.length_drop]; omega)
  have HN := Lib.hid (fun j (h : j < k) => num_take (l.take k) j (by rw [List.length_take]; omega))
  have HT := Lib.hid (fun j (h : j < k) => (show (l.take k).getD j 0 = l.getD j 0 by simp [List.getD_eq_getElem?_getD, List.getElem?_take, h]))
  have HS := Lib.hid (fun j (h : j < 8) => num_small (l.take k) j h)
  have HE : Hid ((l.take k).take k = l.take k) := Lib.hid (by rw [List.take_take, Nat.min_self])
  clear h1 h2 h3
  generalize l.take k = lk at *
  have h4' : l.length ≤ cap := h4
  generalize hn : l.length = n at *
  have Hn := Lib.hid hn
  clear hn h4
  have d : decide ((n : Int) < k) = false := decide_eq_false (by omega)
  have HD : Hid (n = k → l.drop k = []) := Lib.hid (fun e => List.drop_eq_nil_of_le (by rw [Hn.out, e]; exact Nat.le_refl _))
  by_cases hcap : k = cap
  · subst hcap
    have en : n = k := by omega
    have HFk := Lib.hid (HF.out off 0 (.inl (HD.out en)) (by omega))
    rw [show n - k = 0 by omega] at HFk
    clear HF en
    go_enter Try.func43, Try.ntmps43
    go_wp2_with fail
    go_loopw [5, 31] (fun nv iv wr => ∃ j : Nat, j ≤ k ∧ iv = .int .i64 j ∧ nv = .int .u64 (num (lk.take j) : Nat) ∧ wr = w) (fun _ iv _ => k - (intOf iv).toNat)
    case atStart => exact ⟨0, by omega, rfl, rfl, rfl⟩
    case round =>
      obtain ⟨j, hj, rfl, rfl, rfl⟩ := hrel
      by_cases hlt : j < k
      · have hc := HB.out j (by omega)
        have hs := HS.out j (by omega)
        have Hn2 := Lib.hid (HN.out j hlt)
        have Ht2 := HT.out j hlt
        rw [Ht2] at Hn2
        have hc2 := u8_lt (l.getD j 0)
        have ho := u64_or (num (lk.take j)) (l.getD j 0).toNat hs hc2
        clear Ht2
        generalize num (lk.take j) = m at *
        generalize (l.getD j 0).toNat = c at *
        go_wp2_with fail
        go_roundw
        case rel => exact ⟨j + 1, by omega, by go_num, by rw [Hn2.out]; go_num, by trivial⟩
        case measure => simp [intOf]; omega
      · obtain rfl : k = j := by omega
        rw [HE.out]
        generalize hm : num lk = m at *
        have HM := Lib.hid hm
        clear hm
        go_wp2_with fail
        go_ret
        exact ⟨ret_int (by rw [HM.out]; exact (wrap64_eq _).symm), HFk.out⟩
  · have HFk := Lib.hid (HF.out (off + k) (cap - k) (.inr rfl) (by omega))
    clear HF
    go_enter Try.func43, Try.ntmps43
    go_wp2_with fail
    go_loopw [5, 31] (fun nv iv wr => ∃ j : Nat, j ≤ k ∧ iv = .int .i64 j ∧ nv = .int .u64 (num (lk.take j) : Nat) ∧ wr = w) (fun _ iv _ => k - (intOf iv).toNat)
    case atStart => exact ⟨0, by omega, rfl, rfl, rfl⟩
    case round =>
      obtain ⟨j, hj, rfl, rfl, rfl⟩ := hrel
      by_cases hlt : j < k
      · have hc := HB.out j (by omega)
        have hs := HS.out j (by omega)
        have Hn2 := Lib.hid (HN.out j hlt)
        have Ht2 := HT.out j hlt
        rw [Ht2] at Hn2
        have hc2 := u8_lt (l.getD j 0)
        have ho := u64_or (num (lk.take j)) (l.getD j 0).toNat hs hc2
        clear Ht2
        generalize num (lk.take j) = m at *
        generalize (l.getD j 0).toNat = c at *
        go_wp2_with fail
        go_roundw
        case rel => exact ⟨j + 1, by omega, by go_num, by rw [Hn2.out]; go_num, by trivial⟩
        case measure => simp [intOf]; omega
      · obtain rfl : k = j := by omega
        rw [HE.out]
        generalize hm : num lk = m at *
        have HM := Lib.hid hm
        clear hm
        go_wp2_with fail
        go_ret
        exact ⟨ret_int (by rw [HM.out]; exact (wrap64_eq _).symm), HFk.out⟩
/-- so many bytes, as a number. -/
theorem number_rd (k : Nat) (hk1 : 1 ≤ k) (hk : k ≤ 8) (s : Rst) (g : Nat) (w : World) (hs : RdS w g s) :
    Calls Try.prog 43 #[.pointer (some ⟨g, 0, none⟩), .int .i64 k] w fun e w' => e = .returned (.int .i64 (IntKind.i64.wrap ((rdN k s).1 : Nat))) ∧ RdS w' g (rdN k s).2 ∧ RK g w w' := by
  obtain ⟨l, b⟩ := s
  by_cases h : b = true ∨ l.length < k
  · have e : rdN k (l, b) = (0, (l, true)) := by unfold rdN; exact if_pos h
    rw [e]
    exact number_bad k hk (l, b) h g w hs
  · have hb : b = false := by cases b <;> simp_all
    subst hb
    rw [rdN_ok rfl (by dsimp only; exact Nat.le_of_not_lt (fun e => h (.inr e)))]
    exact number_ok k hk1 hk l (Nat.le_of_not_lt (fun e => h (.inr e))) g w hs
end Go.Proofs.Ytbmpjphemjponaa
