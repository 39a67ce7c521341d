/- the clocks of a trace. -/
import Derived.Test.YtaalinhkikmfaaaCc
set_option linter.unusedSimpArgs false
set_option linter.unusedVariables false
namespace Go.Proofs.Ytaalinhkikmfaaa
open Go.RowKit

theorem EI : El Try.prog 23 3 (.int .i64 0) 8 := ⟨Try.underlying23, by kernel_rfl, rfl⟩
theorem EII : El Try.prog 32 23 (.slice none 0 0) 24 := ⟨Try.underlying32, by kernel_rfl, rfl⟩
/-- a slice of clocks of n numbers each. -/
def Clk (w : World) (B : Nat) (A : Option Addr) (m n : Nat) (c : Nat → Nat → Nat) : Prop :=
  ∀ i, i < m → ∃ b o bi oi ci, A = some ⟨b, o, none⟩ ∧ b < B ∧ bi < B ∧ w.cell? ⟨b, o + i, none⟩ = some (.slice (some ⟨bi, oi, none⟩) n ci) ∧ ∀ t, t < n → w.cell? ⟨bi, oi + t, none⟩ = some (.int .i64 (c i t : Nat))
theorem Clk.keep {w w' : World} {B m n : Nat} {A : Option Addr} {c : Nat → Nat → Nat} (h : Clk w B A m n c) (hk : ∀ b o, b < B → w'.cell? ⟨b, o, none⟩ = w.cell? ⟨b, o, none⟩) : Clk w' B A m n c := fun i hi => by
  obtain ⟨b, o, bi, oi, ci, e, h1, h2, h3, h4⟩ := h i hi
  exact ⟨b, o, bi, oi, ci, e, h1, h2, (hk _ _ h1).trans h3, fun t ht => (hk _ _ h2).trans (h4 t ht)⟩
theorem Clk.below {w w' : World} {B m n : Nat} {A : Option Addr} {c : Nat → Nat → Nat} (h : Clk w B A m n c) (hb : Below B w w') : Clk w' B A m n c := h.keep fun b o hbB => hb.cell (p := ⟨b, o, none⟩) hbB
theorem Clk.more {w : World} {B B' m n : Nat} {A : Option Addr} {c : Nat → Nat → Nat} (h : Clk w B A m n c) (hB : B ≤ B') : Clk w B' A m n c := fun i hi => by
  obtain ⟨b, o, bi, oi, ci, e, h1, h2, h3, h4⟩ := h i hi
  exact ⟨b, o, bi, oi, ci, e, by omega, by omega, h3, h4⟩
def rowV (g n i : Nat) : Value := .slice (some ⟨g, i * n, none⟩) n n
def rowVs (g n k : Nat) : List Value := (List.range k).map (rowV g n)
theorem rowVs_snoc (g n k : Nat) : rowVs g n (k + 1) = rowVs g n k ++ [rowV g n k] := by simp [rowVs, List.range_succ]
theorem rowVs_get (g n k i : Nat) (h : i < k) : (rowVs g n k)[i]? = some (rowV g n i) := by simp [rowVs, h]
def ClkP (l : List Ev) (n : Int) (w : World) (r : Ending) (w' : World) : Prop :=
  Below w.heap.size w w' ∧ ((wrongE l n ≠ 0 ∧ r = .returned (.tuple #[.slice none 0 0, .int .i64 (wrongE l n : Nat)])) ∨
    (wrongE l n = 0 ∧ ∃ v g cur, r = .returned (.tuple #[v, .int .i64 0]) ∧ w'.ownsRow w.heap.size 23 1 v l.length (rowVs g n.toNat l.length) ∧ w.heap.size ≤ g ∧ w'.heap[g]? = some (.cells cur 3 (0, 0)) ∧
      ∀ i, i < l.length → ∀ t, t < n.toNat → cur[i * n.toNat + t]? = some (.int .i64 (clk l i t : Nat))))
theorem wrong_ok {l : List Ev} {n : Int} (h : wrongE l n = 0) : 1 ≤ n ∧ n ≤ 16 ∧ l.length ≤ 1024 ∧ badL l n = false := by
  unfold wrongE at h
  split at h
  · cases h
  · split at h
    · cases h
    · split at h
      · cases h
      · rename_i h1 h2 h3
        exact ⟨by omega, by omega, by omega, by simpa using h3⟩
theorem ev_take (l : List Ev) (k i : Nat) (h : i < k) : ev (l.take k) i = ev l i := by simp [ev, List.getD_eq_getElem?_getD, List.getElem?_take, h]
theorem Evs.take {w : World} {B : Nat} {A : Option Addr} {l : List Ev} (h : Evs w B A l) (k : Nat) : Evs w B A (l.take k) := fun i hi => by
  have hi' : i < k ∧ i < l.length := by simp at hi; omega
  rw [ev_take l k i hi'.1]; exact h i hi'.2
theorem nxt_clk (l : List Ev) (k t : Nat) : nxt (l.take k) k (clk l) (ev l k) t = clk l k t := by
  rw [clk_eq]
  exact nxt_congr (fun i hi => ev_take l k i hi) (fun _ _ => rfl)
theorem next_at (l : List Ev) (m : Nat) (hm : m = l.length) (hl : m ≤ 1000000) (e : Ev) (n : Nat) (hn : n ≤ 1000) (he : 0 ≤ e.t ∧ e.t < n) (c : Nat → Nat → Nat) (g off cap : Nat) (cur : Array Value) (Ac : Option Addr) (mc cc : Nat) (hmc : m ≤ mc) (A : Option Addr) (cl B : Nat) (w : World)
    (hg : w.heap[g]? = some (.cells cur 3 (0, 0))) (hz : ∀ t, t < n → cur[off + t]? = some (.int .i64 0)) (hc : Cks w Ac m n c g off) (hA : Evs w B A l) (hB : B ≤ g) :
    Calls Try.prog 50 #[.slice (some ⟨g, off, none⟩) n cap, .slice Ac mc cc, .slice A m cl, e.v] w fun r w' => r = .returned (.tuple #[]) ∧ RowM w w' g off n cur (fun t => nxt l m c e t) := by
  subst hm; exact next_row l hl e n hn he c g off cap cur Ac mc cc hmc A cl B w hg hz hc hA hB
end Go.Proofs.Ytaalinhkikmfaaa
