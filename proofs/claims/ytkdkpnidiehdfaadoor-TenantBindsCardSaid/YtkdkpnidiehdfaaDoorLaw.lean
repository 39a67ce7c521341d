/-
  The plain law of chapter 02: what a hash that has taken l tells is the digest of l. No program.
-/
import Derived.Test.YtkdkpnidiehdfaaDoorHash
set_option linter.unusedSimpArgs false
set_option linter.unusedVariables false
namespace Go.Proofs.YtkdkpnidiehdfaaDoor
open Go.RowKit

theorem sched_congr (m m' : Nat → UInt8) (h : ∀ j, j < 64 → m j = m' j) (t : Nat) : sched m t = sched m' t := by
  induction t with
  | zero => rfl
  | succ t ih =>
    have e : nextW m (sched m' t) = nextW m' (sched m' t) := by
      unfold nextW
      rw [sched_length]
      by_cases ht : t < 16
      · rw [if_pos ht, if_pos ht, h (4 * t) (by omega), h (4 * t + 1) (by omega), h (4 * t + 2) (by omega), h (4 * t + 3) (by omega)]
      · rw [if_neg ht, if_neg ht]
    show sched m t ++ [nextW m (sched m t)] = sched m' t ++ [nextW m' (sched m' t)]
    rw [ih, e]
theorem compress_congr (s : St) (m m' : Nat → UInt8) (h : ∀ j, j < 64 → m j = m' j) : compress s m = compress s m' := by
  simp only [compress, sched_congr m m' h]
theorem blk_congr (s : St) (l l' : List UInt8) (k : Nat) (h : ∀ i, i < 64 * k → l.getD i 0 = l'.getD i 0) : blk s l k = blk s l' k := by
  induction k with
  | zero => rfl
  | succ k ih =>
    simp only [blk]
    rw [ih (fun i hi => h i (by omega))]
    exact compress_congr _ _ _ (fun j hj => h _ (by omega))
theorem getD_drop (l : List UInt8) (a i : Nat) : (l.drop a).getD i 0 = l.getD (a + i) 0 := by simp [List.getD_eq_getElem?_getD]
theorem blk_add (s : St) (l : List UInt8) (q k : Nat) : blk s l (q + k) = blk (blk s l q) (l.drop (64 * q)) k := by
  induction k with
  | zero => rfl
  | succ k ih =>
    rw [← Nat.add_assoc]
    simp only [blk]
    rw [ih]
    exact compress_congr _ _ _ (fun j _ => by rw [getD_drop]; congr 1; omega)

structure Inv (h : HS) (l : List UInt8) : Prop where
  n : h.n = l.length
  w : h.wait.length = 64
  st : h.st = blk St.init l (l.length / 64)
  tail : h.wait.take (l.length % 64) = l.drop (64 * (l.length / 64))
theorem inv_init : Inv HS.init [] := ⟨rfl, by simp [HS.init], rfl, by simp⟩
theorem inv_step (h : HS) (l : List UInt8) (c : UInt8) (H : Inv h l) : Inv (h.absorb c) (l ++ [c]) := by
  have hn := H.n
  have hw := H.w
  have ht := H.tail
  have hlen : (l ++ [c]).length = l.length + 1 := by simp
  have hset : (h.wait.set (l.length % 64) c).take (l.length % 64 + 1) = l.drop (64 * (l.length / 64)) ++ [c] := by
    rw [List.take_succ_eq_append_getElem (by simp [hw]; omega), List.take_set_of_le (Nat.le_refl _), ht]
    simp
  have hget : ∀ i, i < 64 * (l.length / 64) → (l ++ [c]).getD i 0 = l.getD i 0 := fun i hi => getD_app _ _ _ _ (by omega)
  refine ⟨by rw [absorb_n, hn, hlen], by rw [absorb_wait, hw], ?_, ?_⟩
  · unfold HS.absorb
    rw [hn, hlen]
    split
    · rename_i h0
      have e : (l.length + 1) / 64 = l.length / 64 + 1 := by omega
      have e2 : l.length % 64 = 63 := by omega
      rw [e]
      simp only [blk]
      rw [blk_congr St.init (l ++ [c]) l _ hget, ← H.st]
      refine compress_congr _ _ _ (fun j hj => ?_)
      rw [e2] at hset ⊢
      have h64 : (h.wait.set 63 c).take 64 = h.wait.set 63 c := List.take_of_length_le (by simp [hw])
      rw [h64] at hset
      rw [hset, ← List.drop_append_of_le_length (by omega), getD_drop]
    · have e : (l.length + 1) / 64 = l.length / 64 := by omega
      rw [e, blk_congr St.init (l ++ [c]) l _ hget]
      exact H.st
  · have hww : (h.absorb c).wait = h.wait.set (l.length % 64) c := by unfold HS.absorb; rw [hn]; split <;> rfl
    rw [hww, hlen]
    by_cases h0 : (l.length + 1) % 64 = 0
    · have e : (l.length + 1) / 64 = l.length / 64 + 1 := by omega
      rw [h0, e, List.take_zero, List.drop_of_length_le (by simp; omega)]
    · have e : (l.length + 1) / 64 = l.length / 64 := by omega
      have e2 : (l.length + 1) % 64 = l.length % 64 + 1 := by omega
      rw [e, e2, hset, ← List.drop_append_of_le_length (by omega)]
theorem inv_take (l : List UInt8) : Inv (HS.init.take_ l) l := by
  have : ∀ (r l : List UInt8) (h : HS), Inv h l → Inv (h.take_ r) (l ++ r) := by
    intro r
    induction r with
    | nil => intro l h H; rw [List.append_nil]; exact H
    | cons c r ih =>
      intro l h H
      have := ih (l ++ [c]) (h.absorb c) (inv_step h l c H)
      rw [List.append_assoc] at this
      exact this
  exact this l [] HS.init inv_init

theorem finish_sha (l : List UInt8) : (HS.init.take_ l).finish = sha l := by
  have H := inv_take l
  generalize HS.init.take_ l = h at H
  have hn := H.n
  have ht := H.tail
  unfold HS.finish sha HS.mess padded
  rw [hn, ht, H.st]
  congr 1
  have hq : 64 * (l.length / 64) ≤ l.length := by omega
  have hdl : (l.drop (64 * (l.length / 64))).length = l.length % 64 := by simp; omega
  have hp : padz (l ++ [128]) = l.take (64 * (l.length / 64)) ++ padz (l.drop (64 * (l.length / 64)) ++ [128]) := by
    unfold padz
    have e : (l ++ [(128 : UInt8)]).length % 64 = (l.drop (64 * (l.length / 64)) ++ [(128 : UInt8)]).length % 64 := by
      rw [List.length_append, List.length_append, hdl]; simp
    rw [e, ← List.append_assoc, ← List.append_assoc, List.take_append_drop]
  have hpl : (padz (l ++ [128])).length = 64 * (l.length / 64) + (padz (l.drop (64 * (l.length / 64)) ++ [128])).length := by
    rw [hp, List.length_append, List.length_take]; omega
  have hpm := padz_length (l.drop (64 * (l.length / 64)) ++ [128])
  have hK : (padz (l ++ [128]) ++ eight 0).length / 64 = l.length / 64 + ((padz (l.drop (64 * (l.length / 64)) ++ [128])).length / 64 + 1) := by
    rw [List.length_append, hpl]
    simp only [eight, eightL_length]
    omega
  rw [hK, blk_add St.init (padz (l ++ [128]) ++ eight (bitsOf l.length)) (l.length / 64)]
  have hpre : (padz (l ++ [128]) ++ eight (bitsOf l.length)).drop (64 * (l.length / 64)) = padz (l.drop (64 * (l.length / 64)) ++ [128]) ++ eight (bitsOf l.length) := by
    rw [hp, List.append_assoc, List.drop_append_of_le_length (by simp; omega), List.drop_of_length_le (by simp; omega), List.nil_append]
  rw [hpre]
  congr 1
  refine blk_congr _ _ _ _ (fun i hi => ?_)
  rw [hp, List.append_assoc, getD_app _ _ _ _ (by simp; omega)]
  simp [List.getD_eq_getElem?_getD, List.getElem?_take, hi]
end Go.Proofs.YtkdkpnidiehdfaaDoor
