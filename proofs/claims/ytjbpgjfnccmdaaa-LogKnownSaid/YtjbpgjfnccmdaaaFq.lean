/- runs of frames. Plain: no program. -/
import Derived.Test.YtjbpgjfnccmdaaaFp
set_option linter.unusedSimpArgs false
set_option linter.unusedVariables false
namespace Go.Proofs.Ytjbpgjfnccmdaaa

def scanF : Nat → List UInt8 → List (List UInt8) × Nat × Nat
  | 0, _ => ([], 0, 0)
  | f + 1, b => if b = [] then ([], 0, 0) else
      if (nextL b).2.2 = 0 then ((nextL b).1 :: (scanF f (b.drop (nextL b).2.1)).1, (nextL b).2.1 + (scanF f (b.drop (nextL b).2.1)).2.1, (scanF f (b.drop (nextL b).2.1)).2.2)
      else ([], 0, (nextL b).2.2)
/-- the records, their frames' bytes, the end. -/
def scanL (b : List UInt8) : List (List UInt8) × Nat × Nat := scanF b.length b
theorem scanF_nil (f : Nat) : scanF f [] = ([], 0, 0) := by cases f <;> simp [scanF]
theorem scanF_any : ∀ (f g : Nat) (b : List UInt8), b.length ≤ f → b.length ≤ g → scanF f b = scanF g b
  | 0, g, b, h, _ => by
    obtain rfl : b = [] := List.eq_nil_of_length_eq_zero (by omega)
    rw [scanF_nil, scanF_nil]
  | f + 1, 0, b, _, h => by
    obtain rfl : b = [] := List.eq_nil_of_length_eq_zero (by omega)
    rw [scanF_nil, scanF_nil]
  | f + 1, g + 1, b, hf, hg => by
    by_cases hb : b = []
    · subst hb; rw [scanF_nil, scanF_nil]
    rw [scanF, scanF, if_neg hb, if_neg hb]
    by_cases h0 : (nextL b).2.2 = 0
    · rw [if_pos h0, if_pos h0]
      have hw := next_whole (b := b) (r := (nextL b).1) (n := (nextL b).2.1) (by rw [← h0])
      have hl : 0 < b.length := List.length_pos_iff.2 hb
      rw [scanF_any f g (b.drop (nextL b).2.1) (by simp; omega) (by simp; omega)]
    · rw [if_neg h0, if_neg h0]
theorem scan_nil : scanL [] = ([], 0, 0) := rfl
theorem scan_whole {b r : List UInt8} {n : Nat} (h : nextL b = (r, n, 0)) : scanL b = (r :: (scanL (b.drop n)).1, n + (scanL (b.drop n)).2.1, (scanL (b.drop n)).2.2) := by
  have hw := next_whole h
  have hl : b.length ≠ 0 := by omega
  obtain ⟨f, hf⟩ := Nat.exists_eq_succ_of_ne_zero hl
  have hb : b ≠ [] := fun e => hl (by rw [e]; rfl)
  unfold scanL
  rw [hf, scanF, if_neg hb, h, if_pos rfl, scanF_any f (b.drop n).length (b.drop n) (by simp; omega) (Nat.le_refl _)]
theorem scan_stop {b r : List UInt8} {n how : Nat} (hb : b ≠ []) (h : nextL b = (r, n, how)) (h0 : how ≠ 0) : scanL b = ([], 0, how) := by
  obtain ⟨f, hf⟩ := Nat.exists_eq_succ_of_ne_zero (Nat.pos_iff_ne_zero.1 (List.length_pos_iff.2 hb))
  unfold scanL
  rw [hf, scanF, if_neg hb, h, if_neg h0]

def framesL (ls : List (List UInt8)) : List UInt8 := (ls.map frameL).flatten
theorem frames_cons (r : List UInt8) (ls : List (List UInt8)) : framesL (r :: ls) = frameL r ++ framesL ls := by simp [framesL]
theorem frames_app (a b : List (List UInt8)) : framesL (a ++ b) = framesL a ++ framesL b := by simp [framesL]
theorem frames_one (r : List UInt8) : framesL [r] = frameL r := by simp [framesL]
theorem scan_frames : ∀ (ls : List (List UInt8)) (t : List UInt8), (∀ r ∈ ls, r.length ≤ 65536) → scanL (framesL ls ++ t) = (ls ++ (scanL t).1, (framesL ls).length + (scanL t).2.1, (scanL t).2.2)
  | [], t, _ => by simp [framesL]
  | r :: ls, t, h => by
    have hr := next_frame r (framesL ls ++ t) (h r (by simp))
    have hd : (frameL r ++ (framesL ls ++ t)).drop (r.length + 12) = framesL ls ++ t := by rw [← frame_length, List.drop_left]
    rw [frames_cons, List.append_assoc, scan_whole hr, hd, scan_frames ls t (fun x hx => h x (List.mem_cons_of_mem _ hx)), List.length_append, frame_length]
    simp only [List.cons_append, Nat.add_assoc]
theorem scan_torn (r : List UInt8) (h : r.length ≤ 65536) (k : Nat) (hk : k < r.length + 12) : scanL ((frameL r).take k) = ([], 0, if k = 0 then 0 else 1) := by
  by_cases h0 : k = 0
  · subst h0; rfl
  · rw [if_neg h0]
    refine scan_stop (fun e => ?_) (next_torn r h k hk) (by decide)
    have := congrArg List.length e
    rw [List.length_take, frame_length, List.length_nil] at this
    omega
theorem scan_turned (ls1 ls2 : List (List UInt8)) (r : List UInt8) (h : ∀ x ∈ ls1, x.length ≤ 65536) (hr : r.length ≤ 65536) (j : Nat) (y : UInt8) (hj : j < r.length + 12)
    (hy : (framesL (ls1 ++ r :: ls2))[(framesL ls1).length + j]? ≠ some y) : scanL ((framesL (ls1 ++ r :: ls2)).set ((framesL ls1).length + j) y) = (ls1, (framesL ls1).length, 2) := by
  rw [frames_app, frames_cons] at hy ⊢
  rw [List.getElem?_append_right (by omega), Nat.add_sub_cancel_left] at hy
  rw [List.set_append, if_neg (by omega), Nat.add_sub_cancel_left, scan_frames ls1 _ h]
  rw [scan_stop (fun e => by have := congrArg List.length e; simp [frame_length] at this) (next_turned r _ hr j y hj hy) (by decide)]
  simp
theorem scan_again : ∀ (f : Nat) (b : List UInt8), b.length ≤ f → framesL (scanL b).1 = b.take (scanL b).2.1 ∧ (scanL b).2.1 ≤ b.length ∧ ((scanL b).2.2 = 0 ↔ (scanL b).2.1 = b.length) ∧ (scanL b).2.2 ≤ 2 ∧ (∀ r ∈ (scanL b).1, r.length ≤ 65536)
  | 0, b, h => by
    obtain rfl : b = [] := List.eq_nil_of_length_eq_zero (by omega)
    simp [scan_nil, framesL]
  | f + 1, b, h => by
    by_cases hb : b = []
    · subst hb; simp [scan_nil, framesL]
    by_cases h0 : (nextL b).2.2 = 0
    · have e : nextL b = ((nextL b).1, (nextL b).2.1, 0) := by rw [← h0]
      have hw := next_whole e
      generalize (nextL b).1 = r at *
      generalize (nextL b).2.1 = n at *
      rw [scan_whole e]
      have ih := scan_again f (b.drop n) (by simp; omega)
      obtain ⟨i1, i2, i3, i4, i5⟩ := ih
      generalize scanL (b.drop n) = s at *
      simp only [List.length_drop] at *
      refine ⟨?_, by omega, by rw [i3]; omega, i4, fun x hx => ?_⟩
      · have hfl : (frameL r).length = n := by rw [frame_length, hw.1]
        have ht : b.take n = frameL r := by
          conv => lhs; rw [hw.2.2.2.1, ← hfl, List.take_left]
        rw [frames_cons, i1, List.take_add, ht]
      · rcases List.mem_cons.1 hx with rfl | hx
        · exact hw.2.1
        · exact i5 x hx
    · rcases hnb : nextL b with ⟨r, n, how⟩
      rw [hnb] at h0
      have hl := next_len hnb
      rw [scan_stop hb hnb h0]
      have hlen : 0 < b.length := List.length_pos_iff.2 hb
      dsimp only at h0 ⊢
      refine ⟨by simp [framesL], by omega, by omega, by omega, by simp⟩
/-- the record of just one frame. -/
def oneL (b : List UInt8) : Option (List UInt8) := if (nextL b).2.2 = 0 ∧ (nextL b).2.1 = b.length then some (nextL b).1 else none
theorem scan_pos {b : List UInt8} (h : b ≠ []) (h0 : (scanL b).2.2 = 0) : (scanL b).1 ≠ [] := by
  by_cases hn : (nextL b).2.2 = 0
  · rw [scan_whole (r := (nextL b).1) (n := (nextL b).2.1) (by rw [← hn])]; simp
  · rw [scan_stop h rfl hn] at h0; exact absurd h0 hn
theorem one_scan (b : List UInt8) : oneL b = if (scanL b).1.length = 1 ∧ (scanL b).2.2 = 0 then some ((scanL b).1.headD []) else none := by
  unfold oneL
  by_cases hb : b = []
  · subst hb; rfl
  by_cases h0 : (nextL b).2.2 = 0
  · have e : nextL b = ((nextL b).1, (nextL b).2.1, 0) := by rw [← h0]
    have hw := next_whole e
    rw [scan_whole e]
    by_cases hn : (nextL b).2.1 = b.length
    · rw [if_pos ⟨h0, hn⟩, hn, List.drop_length, scan_nil]; simp
    · rw [if_neg (fun h => hn h.2), if_neg]
      rintro ⟨h1, h2⟩
      have hd : b.drop (nextL b).2.1 ≠ [] := fun e => by
        have := congrArg List.length e; simp at this; omega
      exact scan_pos hd h2 (List.eq_nil_of_length_eq_zero (by simpa using h1))
  · rw [if_neg (fun h => h0 h.1), scan_stop hb rfl h0, if_neg (by simp)]
end Go.Proofs.Ytjbpgjfnccmdaaa
