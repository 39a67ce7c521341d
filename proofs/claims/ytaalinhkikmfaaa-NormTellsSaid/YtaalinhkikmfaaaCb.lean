/- traces: what is wrong with one. -/
import Derived.Test.YtaalinhkikmfaaaCa
set_option linter.unusedSimpArgs false
set_option linter.unusedVariables false
namespace Go.Proofs.Ytaalinhkikmfaaa
open Go.RowKit

/-- a slice of events that reads as l. -/
def Evs (w : World) (B : Nat) (A : Option Addr) (l : List Ev) : Prop :=
  ∀ i, i < l.length → ∃ b off, A = some ⟨b, off, none⟩ ∧ b < B ∧ w.cell? ⟨b, off + i * 3, none⟩ = some (.int .i64 (ev l i).t) ∧ w.cell? ⟨b, off + i * 3 + 1, none⟩ = some (.int .i64 (ev l i).k) ∧ w.cell? ⟨b, off + i * 3 + 2, none⟩ = some (.int .i64 (ev l i).o)
theorem Evs.keep {w w' : World} {B : Nat} {A : Option Addr} {l : List Ev} (h : Evs w B A l) (hk : ∀ b o, b < B → w'.cell? ⟨b, o, none⟩ = w.cell? ⟨b, o, none⟩) : Evs w' B A l := fun i hi => by
  obtain ⟨b, off, e, hb, h1, h2, h3⟩ := h i hi
  exact ⟨b, off, e, hb, (hk b _ hb).trans h1, (hk b _ hb).trans h2, (hk b _ hb).trans h3⟩
theorem Evs.below {w w' : World} {B : Nat} {A : Option Addr} {l : List Ev} (h : Evs w B A l) (hb : Below B w w') : Evs w' B A l := h.keep fun b o hbB => hb.cell (p := ⟨b, o, none⟩) hbB
theorem Evs.more {w : World} {B B' : Nat} {A : Option Addr} {l : List Ev} (h : Evs w B A l) (hB : B ≤ B') : Evs w B' A l := fun i hi => by
  obtain ⟨b, off, e, hb, h1, h2, h3⟩ := h i hi
  exact ⟨b, off, e, by omega, h1, h2, h3⟩
def badE (e : Ev) (n : Int) : Bool := decide (e.t < 0) || decide (n ≤ e.t)
def badL (l : List Ev) (n : Int) : Bool := (List.range l.length).any fun i => badE (ev l i) n
theorem badL_yes {l : List Ev} {n : Int} {k : Nat} (hk : k < l.length) (h : badE (ev l k) n = true) : badL l n = true := List.any_eq_true.2 ⟨k, by simpa using hk, h⟩
theorem badL_no {l : List Ev} {n : Int} (h : ∀ i, i < l.length → badE (ev l i) n = false) : badL l n = false := by
  unfold badL
  rw [List.any_eq_false]
  intro i hi
  rw [h i (by simpa using hi)]; simp
theorem good_at {l : List Ev} {n : Int} (h : badL l n = false) {i : Nat} (hi : i < l.length) : 0 ≤ (ev l i).t ∧ (ev l i).t < n := by
  unfold badL at h
  rw [List.any_eq_false] at h
  have := h i (by simpa using hi)
  simp [badE] at this
  omega
/-- what is wrong with a trace. -/
def wrongE (l : List Ev) (n : Int) : Nat := if n < 1 ∨ 16 < n then 2 else if 1024 < l.length then 3 else if badL l n then 2 else 0
set_option maxHeartbeats 1000000 in
theorem wrong1_any (e : Ev) (n : Int) (g : Nat) (w : World) (hg : w.cell? ⟨g, 0, none⟩ = some (.int .i64 n)) :
    Calls Try.prog 59 #[e.v, .pointer (some ⟨g, 0, none⟩)] w fun e' w' => e' = .returned (.bool (badE e n)) ∧ Below w.heap.size w w' := by
  obtain ⟨t, k, o⟩ := e
  unfold Ev.v
  have hgl : g < w.heap.size := World.block_lt_of_cell? _ _ hg
  have Hd : Hid (badE ⟨t, k, o⟩ n = (decide (t < 0) || decide (n ≤ t))) := Lib.hid rfl
  have hc : (w.alloc (.cells #[.int .i64 t, .int .i64 k, .int .i64 o] 50)).cell? ⟨g, 0, none⟩ = some (.int .i64 n) := by rw [World.cell?_alloc_lt _ _ _ hgl]; exact hg
  clear hg
  by_cases h1 : t < 0
  all_goals
    go_enter Try.func59, Try.ntmps59
    go_wp2_with fail
    go_ret
    exact ⟨ret_bool (by rw [Hd.out]; first | (rw [decide_eq_true (show t < 0 by omega)]; rfl) | (rw [decide_eq_false (show ¬ t < 0 by omega)]; simp)), below_alloc _ _⟩
def IndP (l : List Ev) (n : Int) (w : World) (e : Ending) (w' : World) : Prop := ∃ z : Int, e = .returned (.int .i64 z) ∧ decide (0 ≤ z) = badL l n ∧ Below w.heap.size w w'
theorem ev_eta (e : Ev) : Ev.v e = .agg #[.int .i64 e.t, .int .i64 e.k, .int .i64 e.o] := rfl
set_option maxRecDepth 100000 in
set_option maxHeartbeats 2000000 in
theorem index_wrong (l : List Ev) (hl : l.length ≤ 4611686018427387904) (n : Int) (g : Nat) (A : Option Addr) (cap B : Nat) (w : World) (hA : Evs w B A l) (hB : B ≤ w.heap.size) (hg : w.cell? ⟨g, 0, none⟩ = some (.int .i64 n)) :
    Calls Try.prog 70 #[.slice A l.length cap, .func (.func 59) #[] #[.pointer (some ⟨g, 0, none⟩)]] w (IndP l n w) := by
  have HA := Lib.hid hA; have HG := Lib.hid hg
  have Hgl : Hid (g < w.heap.size) := Lib.hid (World.block_lt_of_cell? _ _ hg)
  clear hA hg
  go_enter Try.func70, Try.ntmps70
  go_wp2_with fail
  go_loopw [8] (fun i wr => ∃ k : Nat, k ≤ l.length ∧ i = .int .i64 k ∧ (∀ j, j < k → badE (ev l j) n = false) ∧ Below w.heap.size w wr) (fun i _ => l.length - (intOf i).toNat)
  case atStart => exact ⟨0, by omega, rfl, fun j h => by omega, Below.refl _ _⟩
  case round =>
    obtain ⟨k, hk, rfl, hj, hb⟩ := hrel
    have Hj := Lib.hid hj; have Hb := Lib.hid hb
    clear hj hb
    by_cases hlt : k < l.length
    · obtain ⟨b, off, rfl, hbl, h1, h2, h3⟩ := HA.out k hlt
      have c1 := (Hb.out.cell (p := ⟨b, off + k * 3, none⟩) (Nat.lt_of_lt_of_le hbl hB)).trans h1
      have c2 := (Hb.out.cell (p := ⟨b, off + k * 3 + 1, none⟩) (Nat.lt_of_lt_of_le hbl hB)).trans h2
      have c3 := (Hb.out.cell (p := ⟨b, off + k * 3 + 2, none⟩) (Nat.lt_of_lt_of_le hbl hB)).trans h3
      clear h1 h2 h3
      have Hyes : Hid (badE (ev l k) n = true → badL l n = true) := Lib.hid (badL_yes hlt)
      have Hno : Hid (badE (ev l k) n = false → ∀ j, j < k + 1 → badE (ev l j) n = false) := Lib.hid (fun h j hjk => by
        by_cases e : j = k
        · subst e; exact h
        · exact Hj.out j (by omega))
      have Hwr : Hid (Calls Try.prog 59 #[.agg #[.int .i64 (ev l k).t, .int .i64 (ev l k).k, .int .i64 (ev l k).o], .pointer (some ⟨g, 0, none⟩)] wr fun e' w' => e' = .returned (.bool (badE (ev l k) n)) ∧ Below wr.heap.size wr w') := Lib.hid (wrong1_any (ev l k) n g wr ((Hb.out.cell (p := ⟨g, 0, none⟩) Hgl.out).trans HG.out))
      generalize badE (ev l k) n = bd at *
      generalize ev l k = e at *
      go_wp2_with fail
      refine Hwr.out.mono ?_
      rintro e' w1 ⟨rfl, hb1⟩
      have HB1 := Lib.hid (Hb.out.trans (hb1.mono Hb.out.size))
      clear hb1
      cases bd
      · have Hn := Lib.hid (Hno.out rfl)
        go_wp2_with fail
        go_roundw
        case rel => exact ⟨k + 1, by omega, by go_num, Hn.out, HB1.out⟩
        case measure => simp [intOf]; omega
      · have Hn := Lib.hid (Hyes.out rfl)
        go_wp2_with fail
        go_ret
        exact ⟨_, rfl, by rw [Hn.out]; simp, HB1.out⟩
    · obtain rfl : k = l.length := by omega
      have Hn := Lib.hid (badL_no Hj.out)
      go_wp2_with fail
      go_ret
      exact ⟨_, rfl, by rw [Hn.out]; decide, Hb.out⟩
set_option maxRecDepth 100000 in
set_option maxHeartbeats 2000000 in
theorem contains_wrong (l : List Ev) (hl : l.length ≤ 4611686018427387904) (n : Int) (g : Nat) (A : Option Addr) (cap B : Nat) (w : World) (hA : Evs w B A l) (hB : B ≤ w.heap.size) (hg : w.cell? ⟨g, 0, none⟩ = some (.int .i64 n)) :
    Calls Try.prog 58 #[.slice A l.length cap, .func (.func 59) #[] #[.pointer (some ⟨g, 0, none⟩)]] w fun e w' => e = .returned (.bool (badL l n)) ∧ Below w.heap.size w w' := by
  have Hi := Lib.hid (index_wrong l hl n g A cap B w hA hB hg)
  clear hA hg
  go_enter Try.func58, Try.ntmps58
  go_wp2_with fail
  refine Hi.out.mono ?_
  rintro e w1 ⟨z, rfl, hz, hb⟩
  have Hz := Lib.hid hz; have Hb := Lib.hid hb
  clear hz hb
  go_wp2_with fail
  go_ret
  exact ⟨ret_bool Hz.out, Hb.out⟩
set_option maxRecDepth 100000 in
set_option maxHeartbeats 2000000 in
theorem wrong_any (l : List Ev) (hl : l.length ≤ 4611686018427387904) (n : Int) (A : Option Addr) (cap B : Nat) (w : World) (hA : Evs w B A l) (hB : B ≤ w.heap.size) :
    Calls Try.prog 49 #[.slice A l.length cap, .int .i64 n] w fun e w' => e = .returned (.int .i64 (wrongE l n : Nat)) ∧ Below w.heap.size w w' := by
  have HA := Lib.hid hA
  clear hA
  by_cases h1 : n < 1 ∨ 16 < n
  · have Hw : Hid (wrongE l n = 2) := Lib.hid (if_pos h1)
    rcases h1 with h1 | h1
    all_goals
      go_enter Try.func49, Try.ntmps49
      go_wp2_with fail
      go_ret
      exact ⟨by rw [Hw.out]; rfl, below_alloc _ _⟩
  have Hw : Hid (wrongE l n = if 1024 < l.length then 3 else if badL l n then 2 else 0) := Lib.hid (if_neg h1)
  by_cases h2 : 1024 < l.length
  · go_enter Try.func49, Try.ntmps49
    go_wp2_with fail
    go_ret
    exact ⟨by rw [Hw.out, if_pos h2]; rfl, below_alloc _ _⟩
  · have Hw := Lib.hid (Hw.out.trans (if_neg h2))
    go_enter Try.func49, Try.ntmps49
    go_wp2_with fail
    have Hc : Hid (Calls Try.prog 58 #[.slice A l.length cap, .func (.func 59) #[] #[.pointer (some ⟨w.heap.size, 0, none⟩)]] (w.alloc (.cells #[.int .i64 n] 3)) fun e w' => e = .returned (.bool (badL l n)) ∧ Below (w.alloc (.cells #[.int .i64 n] 3)).heap.size (w.alloc (.cells #[.int .i64 n] 3)) w') :=
      Lib.hid (contains_wrong l hl n w.heap.size A cap B _ (HA.out.below ((below_alloc w _).mono hB)) (by simp; omega) (by rw [cell_blk (heap_alloc_new _ _)]; rfl))
    refine Hc.out.mono ?_
    rintro e w1 ⟨rfl, hb⟩
    have Hb : Hid (Below w.heap.size w w1) := Lib.hid ((below_alloc w _).trans (hb.mono (by simp)))
    clear hb
    cases hbd : badL l n
    all_goals
      rw [hbd] at Hw
      clear hbd
      go_wp2_with fail
      go_ret
      exact ⟨by rw [Hw.out]; rfl, Hb.out⟩
end Go.Proofs.Ytaalinhkikmfaaa
