/- several texts in one: frames: what bytes say. Plain: no program., runs of frames. Plain: no program. -/
import Derived.Test.YtegekaocbalndaaGreatDoorNum
section
set_option linter.unusedSimpArgs false
set_option linter.unusedVariables false
namespace Go.Proofs.YtegekaocbalndaaGreatDoor

/-! ### the check -/
def cbit (c : UInt32) : UInt32 := if c.toNat % 2 = 1 then xor32 (shr32 c 1) 2197175160 else shr32 c 1
def cbits : Nat → UInt32 → UInt32
  | 0, c => c
  | n + 1, c => cbit (cbits n c)
def cstep (c : UInt32) (x : UInt8) : UInt32 := cbits 8 (xor32 c (toU32 x))
def crc (l : List UInt8) : UInt32 := l.foldl cstep 4294967295
def check (l : List UInt8) : UInt32 := not32 (crc l)
theorem xor32_toNat (a b : UInt32) : (xor32 a b).toNat = a.toNat ^^^ b.toNat := UInt32.toNat_xor a b
theorem xor_cancel {a b c : Nat} (h : a ^^^ c = b ^^^ c) : a = b := by
  have := congrArg (· ^^^ c) h
  simpa [Nat.xor_assoc] using this
theorem xor_cancel' {a b c : Nat} (h : c ^^^ a = c ^^^ b) : a = b := by
  rw [Nat.xor_comm c a, Nat.xor_comm c b] at h; exact xor_cancel h
theorem shr1_toNat (c : UInt32) : (shr32 c 1).toNat = c.toNat / 2 := by
  simp [shr32, UInt32.toNat_shiftRight, Nat.shiftRight_eq_div_pow]
theorem half_top (n : Nat) (h : n < 4294967296) : (n / 2).testBit 31 = false := Nat.testBit_lt_two_pow (by omega)
theorem cbit_inj {a b : UInt32} (h : cbit a = cbit b) : a = b := by
  have key : ∀ c : UInt32, (cbit c).toNat.testBit 31 = decide (c.toNat % 2 = 1) := by
    intro c
    unfold cbit
    split
    · rename_i h1
      rw [xor32_toNat, shr1_toNat, Nat.testBit_xor, half_top _ c.toNat_lt]
      simp [h1]; decide
    · rename_i h1
      rw [shr1_toNat, half_top _ c.toNat_lt]
      simp [h1]
  have k1 := key a
  have k2 := key b
  rw [h, k2] at k1
  have h2 := congrArg UInt32.toNat h
  unfold cbit at h2
  apply UInt32.toNat_inj.1
  by_cases ha : a.toNat % 2 = 1
  · have hb : b.toNat % 2 = 1 := by simpa [ha] using k1
    rw [if_pos ha, if_pos hb, xor32_toNat, xor32_toNat] at h2
    have h3 := xor_cancel h2
    rw [shr1_toNat, shr1_toNat] at h3
    omega
  · have hb : ¬ b.toNat % 2 = 1 := by simpa [ha] using k1
    rw [if_neg ha, if_neg hb, shr1_toNat, shr1_toNat] at h2
    omega
theorem cbits_inj {a b : UInt32} : ∀ n, cbits n a = cbits n b → a = b
  | 0, h => h
  | n + 1, h => cbits_inj n (cbit_inj h)
theorem cstep_left {a b : UInt32} {x : UInt8} (h : cstep a x = cstep b x) : a = b := by
  have := congrArg UInt32.toNat (cbits_inj 8 h)
  rw [xor32_toNat, xor32_toNat] at this
  exact UInt32.toNat_inj.1 (xor_cancel this)
theorem toU32_nat (x : UInt8) : (toU32 x).toNat = x.toNat := by simp [toU32]
theorem cstep_right {a : UInt32} {x y : UInt8} (h : cstep a x = cstep a y) : x = y := by
  have := congrArg UInt32.toNat (cbits_inj 8 h)
  rw [xor32_toNat, xor32_toNat] at this
  have := xor_cancel' this
  rw [toU32_nat, toU32_nat] at this
  exact UInt8.toNat_inj.1 this
theorem fold_ne : ∀ (l : List UInt8) {a b : UInt32}, a ≠ b → l.foldl cstep a ≠ l.foldl cstep b
  | [], _, _, h => h
  | x :: l, _, _, h => fold_ne l fun e => h (cstep_left e)
theorem not32_inj {a b : UInt32} (h : not32 a = not32 b) : a = b := by
  have h1 : ∀ c : UInt32, (not32 c).toNat = 4294967295 - c.toNat := fun c => by simp [not32, UInt32.toNat_not]
  have h2 := congrArg UInt32.toNat h
  rw [h1, h1] at h2
  have := u32_lt a; have := u32_lt b
  exact UInt32.toNat_inj.1 (by omega)
theorem check_set (l : List UInt8) (i : Nat) (y : UInt8) (hi : i < l.length) (hy : y ≠ l[i]) : check (l.set i y) ≠ check l := by
  intro h
  have h1 := not32_inj h
  have e1 : l = l.take i ++ l[i] :: l.drop (i + 1) := by rw [List.getElem_cons_drop, List.take_append_drop]
  have e2 : l.set i y = l.take i ++ y :: l.drop (i + 1) := by rw [List.set_eq_take_append_cons_drop, if_pos hi]
  unfold crc at h1
  rw [e2] at h1
  conv at h1 => rhs; rw [e1]
  rw [List.foldl_append, List.foldl_append, List.foldl_cons, List.foldl_cons] at h1
  exact fold_ne _ (fun e => hy (cstep_right e)) h1
theorem crc_snoc (l : List UInt8) (c : UInt8) : crc (l ++ [c]) = cstep (crc l) c := by simp [crc]

/-! ### numbers -/
def beb : Nat → Nat → List UInt8
  | 0, _ => []
  | k + 1, n => beb k (n / 256) ++ [UInt8.ofNat n]
def num (l : List UInt8) : Nat := l.foldl (fun a c => a * 256 + c.toNat) 0
theorem beb_length : ∀ k n, (beb k n).length = k
  | 0, _ => rfl
  | k + 1, n => by simp [beb, beb_length k]
theorem num_snoc (l : List UInt8) (c : UInt8) : num (l ++ [c]) = num l * 256 + c.toNat := by simp [num]
theorem num_beb : ∀ k n, n < 256 ^ k → num (beb k n) = n
  | 0, n, h => by simp at h; subst h; rfl
  | k + 1, n, h => by
    rw [beb, num_snoc, num_beb k _ (by rw [Nat.pow_succ] at h; omega)]
    simp; omega
theorem rev_ind {P : List UInt8 → Prop} (h0 : P []) (h1 : ∀ l c, P l → P (l ++ [c])) : ∀ l, P l := by
  have : ∀ l : List UInt8, P l.reverse := fun l => by
    induction l with
    | nil => exact h0
    | cons c l ih => rw [List.reverse_cons]; exact h1 _ _ ih
  intro l
  have := this l.reverse
  rwa [List.reverse_reverse] at this
theorem num_lt (l : List UInt8) : num l < 256 ^ l.length := by
  refine rev_ind (P := fun l => num l < 256 ^ l.length) (by simp [num]) (fun l c ih => ?_) l
  · rw [num_snoc, List.length_append, List.length_singleton, Nat.pow_succ]
    have := u8_lt c; omega
theorem beb_num (l : List UInt8) : beb l.length (num l) = l := by
  refine rev_ind (P := fun l => beb l.length (num l) = l) rfl (fun l c ih => ?_) l
  · rw [num_snoc, List.length_append, List.length_singleton, beb]
    have := u8_lt c
    rw [show (num l * 256 + c.toNat) / 256 = num l by omega, ih]
    congr 2
    apply UInt8.toNat_inj.1
    simp
theorem num_inj {a b : List UInt8} (hl : a.length = b.length) (h : num a = num b) : a = b := by
  rw [← beb_num a, ← beb_num b, h, hl]

/-! ### parts of bytes -/
def seg (b : List UInt8) (o n : Nat) : List UInt8 := (b.drop o).take n
theorem seg_length {b : List UInt8} {o n : Nat} (h : o + n ≤ b.length) : (seg b o n).length = n := by simp [seg]; omega
theorem seg_get (b : List UInt8) (o n j : Nat) (h : j < n) : (seg b o n)[j]? = b[o + j]? := by simp [seg, List.getElem?_take, h]
theorem seg_set_in (b : List UInt8) (o n i : Nat) (y : UInt8) (h1 : o ≤ i) (h2 : i < o + n) : seg (b.set i y) o n = (seg b o n).set (i - o) y := by
  apply List.ext_getElem?
  intro j
  by_cases hj : j < n
  · rw [seg_get _ _ _ _ hj, List.getElem?_set, List.getElem?_set, seg_get _ _ _ _ hj]
    by_cases e : i = o + j
    · have e' : i - o = j := by omega
      rw [if_pos e, if_pos e', e']
      rw [e]
      have hl : j < (seg b o n).length ↔ o + j < b.length := by simp [seg]; omega
      by_cases hb : o + j < b.length
      · rw [if_pos hb, if_pos (hl.2 hb)]
      · rw [if_neg hb, if_neg (fun h => hb (hl.1 h))]
    · have e' : ¬ i - o = j := by omega
      rw [if_neg e, if_neg e']
  · have h1 : (seg (b.set i y) o n).length ≤ j := by simp [seg]; omega
    have h2 : ((seg b o n).set (i - o) y).length ≤ j := by simp [seg]; omega
    rw [List.getElem?_eq_none h1, List.getElem?_eq_none h2]
theorem seg_set_out (b : List UInt8) (o n i : Nat) (y : UInt8) (h : i < o ∨ o + n ≤ i) : seg (b.set i y) o n = seg b o n := by
  apply List.ext_getElem?
  intro j
  by_cases hj : j < n
  · rw [seg_get _ _ _ _ hj, List.getElem?_set, seg_get _ _ _ _ hj, if_neg (by omega)]
  · have h1 : (seg (b.set i y) o n).length ≤ j := by simp [seg]; omega
    have h2 : (seg b o n).length ≤ j := by simp [seg]; omega
    rw [List.getElem?_eq_none h1, List.getElem?_eq_none h2]
theorem seg_app_left {a b : List UInt8} {o n : Nat} (h : o + n ≤ a.length) : seg (a ++ b) o n = seg a o n := by
  unfold seg
  rw [List.drop_append_of_le_length (by omega), List.take_append_of_le_length (by simp; omega)]
theorem seg_app_at {a b : List UInt8} {o n : Nat} (h : o = a.length) : seg (a ++ b) o n = b.take n := by
  unfold seg; subst h; rw [List.drop_left]
theorem seg_drop (b : List UInt8) (o n : Nat) : b.drop o = seg b o n ++ b.drop (o + n) := by
  unfold seg; rw [← List.drop_drop, List.take_append_drop]
theorem seg_all {b : List UInt8} {n : Nat} (h : b.length = n) : seg b 0 n = b := by simp [seg, ← h]

/-! ### frames -/
def frameL (r : List UInt8) : List UInt8 := beb 4 r.length ++ (beb 4 (4294967295 - r.length) ++ (r ++ beb 4 (check r).toNat))
theorem frame_length (r : List UInt8) : (frameL r).length = r.length + 12 := by simp [frameL, beb_length]; omega
/-- the record in front, its frame's bytes, how it is (0 whole, 1 torn, 2 bad). -/
def nextL (b : List UInt8) : List UInt8 × Nat × Nat :=
  if b.length < 8 then ([], 0, 1)
  else if num (seg b 4 4) ≠ 4294967295 - num (seg b 0 4) ∨ 65536 < num (seg b 0 4) then ([], 0, 2)
  else if b.length < num (seg b 0 4) + 12 then ([], 0, 1)
  else if seg b (8 + num (seg b 0 4)) 4 ≠ beb 4 (check (seg b 8 (num (seg b 0 4)))).toNat then ([], 0, 2)
  else (seg b 8 (num (seg b 0 4)), num (seg b 0 4) + 12, 0)
theorem frame_s0 (r t : List UInt8) : seg (frameL r ++ t) 0 4 = beb 4 r.length := by
  rw [seg_app_left (by rw [frame_length]; omega), frameL, seg_app_left (by simp [beb_length]), seg_all (beb_length _ _)]
theorem frame_s4 (r t : List UInt8) : seg (frameL r ++ t) 4 4 = beb 4 (4294967295 - r.length) := by
  rw [seg_app_left (by rw [frame_length]; omega), frameL, seg_app_at (beb_length _ _).symm, List.take_append_of_le_length (by simp [beb_length]), List.take_of_length_le (by simp [beb_length])]
theorem frame_s8 (r t : List UInt8) : seg (frameL r ++ t) 8 r.length = r := by
  rw [seg_app_left (by rw [frame_length]; omega), frameL, ← List.append_assoc, seg_app_at (by simp [beb_length]), List.take_append_of_le_length (Nat.le_refl _), List.take_length]
theorem frame_sc (r t : List UInt8) : seg (frameL r ++ t) (8 + r.length) 4 = beb 4 (check r).toNat := by
  rw [seg_app_left (by rw [frame_length]; omega), frameL, ← List.append_assoc, ← List.append_assoc, seg_app_at (by simp [beb_length]; omega), List.take_of_length_le (by simp [beb_length])]
theorem next_frame (r t : List UInt8) (h : r.length ≤ 65536) : nextL (frameL r ++ t) = (r, r.length + 12, 0) := by
  have hn : num (beb 4 r.length) = r.length := num_beb 4 _ (by omega)
  have hm : num (beb 4 (4294967295 - r.length)) = 4294967295 - r.length := num_beb 4 _ (by omega)
  have hl : (frameL r ++ t).length = r.length + 12 + t.length := by rw [List.length_append, frame_length]
  unfold nextL
  rw [frame_s0, frame_s4, hn, hm, frame_s8, frame_sc, hl, if_neg (by omega), if_neg (by omega), if_neg (by omega), if_neg (by simp)]
theorem next_torn (r : List UInt8) (h : r.length ≤ 65536) (k : Nat) (hk : k < r.length + 12) : nextL ((frameL r).take k) = ([], 0, 1) := by
  have hl : ((frameL r).take k).length = k := by rw [List.length_take, frame_length]; omega
  unfold nextL
  rw [hl]
  by_cases h8 : k < 8
  · rw [if_pos h8]
  · have e : ∀ o, o + 4 ≤ k → seg ((frameL r).take k) o 4 = seg (frameL r ++ []) o 4 := fun o ho => by
      rw [List.append_nil]
      apply List.ext_getElem?
      intro j
      by_cases hj : j < 4
      · rw [seg_get _ _ _ _ hj, seg_get _ _ _ _ hj, List.getElem?_take, if_pos (by omega)]
      · rw [List.getElem?_eq_none (by simp [seg]; omega), List.getElem?_eq_none (by simp [seg]; omega)]
    have hn : num (beb 4 r.length) = r.length := num_beb 4 _ (by omega)
    have hm : num (beb 4 (4294967295 - r.length)) = 4294967295 - r.length := num_beb 4 _ (by omega)
    rw [e 0 (by omega), e 4 (by omega), frame_s0, frame_s4, hn, hm, if_neg h8, if_neg (by omega), if_pos hk]
theorem next_whole {b r : List UInt8} {n : Nat} (h : nextL b = (r, n, 0)) : n = r.length + 12 ∧ r.length ≤ 65536 ∧ n ≤ b.length ∧ b = frameL r ++ b.drop n ∧ r = seg b 8 r.length := by
  unfold nextL at h
  by_cases h1 : b.length < 8
  · rw [if_pos h1] at h; simp at h
  rw [if_neg h1] at h
  by_cases h2 : num (seg b 4 4) ≠ 4294967295 - num (seg b 0 4) ∨ 65536 < num (seg b 0 4)
  · rw [if_pos h2] at h; simp at h
  rw [if_neg h2] at h
  by_cases h3 : b.length < num (seg b 0 4) + 12
  · rw [if_pos h3] at h; simp at h
  rw [if_neg h3] at h
  by_cases h4 : seg b (8 + num (seg b 0 4)) 4 ≠ beb 4 (check (seg b 8 (num (seg b 0 4)))).toNat
  · rw [if_pos h4] at h; simp at h
  rw [if_neg h4] at h
  have h4' := Classical.not_not.1 h4
  obtain ⟨hm, hn⟩ : num (seg b 4 4) = 4294967295 - num (seg b 0 4) ∧ num (seg b 0 4) ≤ 65536 := by omega
  simp only [Prod.mk.injEq, and_true] at h
  obtain ⟨hr, rfl⟩ := h
  have b0 := beb_num (seg b 0 4)
  have b4 := beb_num (seg b 4 4)
  rw [seg_length (by omega)] at b0 b4
  generalize num (seg b 0 4) = n at *
  have hrl : r.length = n := by rw [← hr]; exact seg_length (by omega)
  subst hrl
  rw [hr] at h4'
  refine ⟨rfl, hn, by omega, ?_, hr.symm⟩
  have e0 : b = seg b 0 4 ++ b.drop 4 := seg_drop b 0 4
  have e4 : b.drop 4 = seg b 4 4 ++ b.drop 8 := seg_drop b 4 4
  have e8 : b.drop 8 = r ++ b.drop (8 + r.length) := by conv => lhs; rw [seg_drop b 8 r.length, hr]
  have ec : b.drop (8 + r.length) = seg b (8 + r.length) 4 ++ b.drop (r.length + 12) := by rw [show r.length + 12 = 8 + r.length + 4 by omega]; exact seg_drop b _ 4
  unfold frameL
  rw [b0, ← hm, b4, ← h4', List.append_assoc, List.append_assoc, List.append_assoc, ← ec, ← e8, ← e4, ← e0]
theorem next_len {b r : List UInt8} {n how : Nat} (h : nextL b = (r, n, how)) : how = 0 ∨ ((how = 1 ∨ how = 2) ∧ r = [] ∧ n = 0) := by
  unfold nextL at h
  repeat (split at h; · (simp only [Prod.mk.injEq] at h; obtain ⟨rfl, rfl, rfl⟩ := h; simp))
  simp only [Prod.mk.injEq] at h
  exact .inl h.2.2.symm
/-- one byte of a frame changed. -/
theorem next_turned (r t : List UInt8) (h : r.length ≤ 65536) (i : Nat) (y : UInt8) (hi : i < r.length + 12) (hy : (frameL r ++ t)[i]? ≠ some y) : nextL ((frameL r ++ t).set i y) = ([], 0, 2) := by
  have hn : num (beb 4 r.length) = r.length := num_beb 4 _ (by omega)
  have hm : num (beb 4 (4294967295 - r.length)) = 4294967295 - r.length := num_beb 4 _ (by omega)
  have hl : (frameL r ++ t).length = r.length + 12 + t.length := by rw [List.length_append, frame_length]
  have s0 := frame_s0 r t; have s4 := frame_s4 r t; have s8 := frame_s8 r t; have sc := frame_sc r t
  generalize hF : frameL r ++ t = F at *
  have hne : ∀ o n, o ≤ i → i < o + n → o + n ≤ F.length → (seg F o n).set (i - o) y ≠ seg F o n := fun o n h1 h2 h3 e => by
    have e1 : ((seg F o n).set (i - o) y)[i - o]? = (seg F o n)[i - o]? := by rw [e]
    rw [List.getElem?_set_self (by rw [seg_length h3]; omega), seg_get _ _ _ _ (by omega), show o + (i - o) = i by omega] at e1
    exact hy e1.symm
  unfold nextL
  rw [List.length_set, hl, if_neg (by omega)]
  by_cases c0 : i < 4
  · rw [seg_set_in F 0 4 i y (by omega) (by omega), seg_set_out F 4 4 i y (by omega)]
    have := hne 0 4 (by omega) (by omega) (by omega)
    have h2 : num ((seg F 0 4).set (i - 0) y) ≠ num (seg F 0 4) := fun e => this (num_inj (by simp) e)
    rw [s0, hn] at h2
    rw [s0, s4, hm]
    have h3 := num_lt ((beb 4 r.length).set (i - 0) y)
    rw [List.length_set, beb_length] at h3
    rw [if_pos (by omega)]
  by_cases c4 : i < 8
  · rw [seg_set_out F 0 4 i y (by omega), seg_set_in F 4 4 i y (by omega) (by omega)]
    have := hne 4 4 (by omega) (by omega) (by omega)
    have h2 : num ((seg F 4 4).set (i - 4) y) ≠ num (seg F 4 4) := fun e => this (num_inj (by simp) e)
    rw [s4, hm] at h2
    rw [s0, s4, hn, if_pos (Or.inl h2)]
  rw [seg_set_out F 0 4 i y (by omega), seg_set_out F 4 4 i y (by omega), s0, s4, hn, hm, if_neg (by omega), if_neg (by omega)]
  by_cases c8 : i < 8 + r.length
  · rw [seg_set_in F 8 r.length i y (by omega) (by omega), seg_set_out F (8 + r.length) 4 i y (by omega)]
    have hd := hne 8 r.length (by omega) (by omega) (by omega)
    rw [s8] at hd ⊢
    rw [sc]
    refine if_pos fun e => ?_
    have e2 := congrArg num e
    rw [num_beb 4 _ (u32_lt _), num_beb 4 _ (u32_lt _)] at e2
    refine check_set r (i - 8) y (by omega) (fun e3 => hd ?_) (UInt32.toNat_inj.1 e2).symm
    rw [e3, List.set_getElem_self]
  · rw [seg_set_out F 8 r.length i y (by omega), seg_set_in F (8 + r.length) 4 i y (by omega) (by omega)]
    have hd := hne (8 + r.length) 4 (by omega) (by omega) (by omega)
    rw [s8, sc] at *
    exact if_pos hd
end Go.Proofs.YtegekaocbalndaaGreatDoor
end

section
set_option linter.unusedSimpArgs false
set_option linter.unusedVariables false
namespace Go.Proofs.YtegekaocbalndaaGreatDoor

def scanF : Nat → List UInt8 → List (List UInt8) × Nat × Nat
  | 0, _ => ([], 0, 0)
  | f + 1, b => if b = [] then ([], 0, 0) else
      if (nextL b).2.2 = 0 then ((nextL b).1 :: (scanF f (b.drop (nextL b).2.1)).1, (nextL b).2.1 + (scanF f (b.drop (nextL b).2.1)).2.1, (scanF f (b.drop (nextL b).2.1)).2.2)
      else ([], 0, (nextL b).2.2)
/-- the records, their frames' bytes, the end. -/
def scanL (b : List UInt8) : List (List UInt8) × Nat × Nat := scanF b.length b
theorem scanF_nil (f : Nat) : scanF f [] = ([], 0, 0) := by cases f <;> simp [scanF]
theorem scanF_any : ∀ (f g : Nat) (b : List UInt8), b.length ≤ f → b.length ≤ g → scanF f b = scanF g b
  | 0, g, b, h, _ => by
    obtain rfl : b = [] := List.eq_nil_of_length_eq_zero (by omega)
    rw [scanF_nil, scanF_nil]
  | f + 1, 0, b, _, h => by
    obtain rfl : b = [] := List.eq_nil_of_length_eq_zero (by omega)
    rw [scanF_nil, scanF_nil]
  | f + 1, g + 1, b, hf, hg => by
    by_cases hb : b = []
    · subst hb; rw [scanF_nil, scanF_nil]
    rw [scanF, scanF, if_neg hb, if_neg hb]
    by_cases h0 : (nextL b).2.2 = 0
    · rw [if_pos h0, if_pos h0]
      have hw := next_whole (b := b) (r := (nextL b).1) (n := (nextL b).2.1) (by rw [← h0])
      have hl : 0 < b.length := List.length_pos_iff.2 hb
      rw [scanF_any f g (b.drop (nextL b).2.1) (by simp; omega) (by simp; omega)]
    · rw [if_neg h0, if_neg h0]
theorem scan_nil : scanL [] = ([], 0, 0) := rfl
theorem scan_whole {b r : List UInt8} {n : Nat} (h : nextL b = (r, n, 0)) : scanL b = (r :: (scanL (b.drop n)).1, n + (scanL (b.drop n)).2.1, (scanL (b.drop n)).2.2) := by
  have hw := next_whole h
  have hl : b.length ≠ 0 := by omega
  obtain ⟨f, hf⟩ := Nat.exists_eq_succ_of_ne_zero hl
  have hb : b ≠ [] := fun e => hl (by rw [e]; rfl)
  unfold scanL
  rw [hf, scanF, if_neg hb, h, if_pos rfl, scanF_any f (b.drop n).length (b.drop n) (by simp; omega) (Nat.le_refl _)]
theorem scan_stop {b r : List UInt8} {n how : Nat} (hb : b ≠ []) (h : nextL b = (r, n, how)) (h0 : how ≠ 0) : scanL b = ([], 0, how) := by
  obtain ⟨f, hf⟩ := Nat.exists_eq_succ_of_ne_zero (Nat.pos_iff_ne_zero.1 (List.length_pos_iff.2 hb))
  unfold scanL
  rw [hf, scanF, if_neg hb, h, if_neg h0]

def framesL (ls : List (List UInt8)) : List UInt8 := (ls.map frameL).flatten
theorem frames_cons (r : List UInt8) (ls : List (List UInt8)) : framesL (r :: ls) = frameL r ++ framesL ls := by simp [framesL]
theorem frames_app (a b : List (List UInt8)) : framesL (a ++ b) = framesL a ++ framesL b := by simp [framesL]
theorem frames_one (r : List UInt8) : framesL [r] = frameL r := by simp [framesL]
theorem scan_frames : ∀ (ls : List (List UInt8)) (t : List UInt8), (∀ r ∈ ls, r.length ≤ 65536) → scanL (framesL ls ++ t) = (ls ++ (scanL t).1, (framesL ls).length + (scanL t).2.1, (scanL t).2.2)
  | [], t, _ => by simp [framesL]
  | r :: ls, t, h => by
    have hr := next_frame r (framesL ls ++ t) (h r (by simp))
    have hd : (frameL r ++ (framesL ls ++ t)).drop (r.length + 12) = framesL ls ++ t := by rw [← frame_length, List.drop_left]
    rw [frames_cons, List.append_assoc, scan_whole hr, hd, scan_frames ls t (fun x hx => h x (List.mem_cons_of_mem _ hx)), List.length_append, frame_length]
    simp only [List.cons_append, Nat.add_assoc]
theorem scan_torn (r : List UInt8) (h : r.length ≤ 65536) (k : Nat) (hk : k < r.length + 12) : scanL ((frameL r).take k) = ([], 0, if k = 0 then 0 else 1) := by
  by_cases h0 : k = 0
  · subst h0; rfl
  · rw [if_neg h0]
    refine scan_stop (fun e => ?_) (next_torn r h k hk) (by decide)
    have := congrArg List.length e
    rw [List.length_take, frame_length, List.length_nil] at this
    omega
theorem scan_turned (ls1 ls2 : List (List UInt8)) (r : List UInt8) (h : ∀ x ∈ ls1, x.length ≤ 65536) (hr : r.length ≤ 65536) (j : Nat) (y : UInt8) (hj : j < r.length + 12)
    (hy : (framesL (ls1 ++ r :: ls2))[(framesL ls1).length + j]? ≠ some y) : scanL ((framesL (ls1 ++ r :: ls2)).set ((framesL ls1).length + j) y) = (ls1, (framesL ls1).length, 2) := by
  rw [frames_app, frames_cons] at hy ⊢
  rw [List.getElem?_append_right (by omega), Nat.add_sub_cancel_left] at hy
  rw [List.set_append, if_neg (by omega), Nat.add_sub_cancel_left, scan_frames ls1 _ h]
  rw [scan_stop (fun e => by have := congrArg List.length e; simp [frame_length] at this) (next_turned r _ hr j y hj hy) (by decide)]
  simp
theorem scan_again : ∀ (f : Nat) (b : List UInt8), b.length ≤ f → framesL (scanL b).1 = b.take (scanL b).2.1 ∧ (scanL b).2.1 ≤ b.length ∧ ((scanL b).2.2 = 0 ↔ (scanL b).2.1 = b.length) ∧ (scanL b).2.2 ≤ 2 ∧ (∀ r ∈ (scanL b).1, r.length ≤ 65536)
  | 0, b, h => by
    obtain rfl : b = [] := List.eq_nil_of_length_eq_zero (by omega)
    simp [scan_nil, framesL]
  | f + 1, b, h => by
    by_cases hb : b = []
    · subst hb; simp [scan_nil, framesL]
    by_cases h0 : (nextL b).2.2 = 0
    · have e : nextL b = ((nextL b).1, (nextL b).2.1, 0) := by rw [← h0]
      have hw := next_whole e
      generalize (nextL b).1 = r at *
      generalize (nextL b).2.1 = n at *
      rw [scan_whole e]
      have ih := scan_again f (b.drop n) (by simp; omega)
      obtain ⟨i1, i2, i3, i4, i5⟩ := ih
      generalize scanL (b.drop n) = s at *
      simp only [List.length_drop] at *
      refine ⟨?_, by omega, by rw [i3]; omega, i4, fun x hx => ?_⟩
      · have hfl : (frameL r).length = n := by rw [frame_length, hw.1]
        have ht : b.take n = frameL r := by
          conv => lhs; rw [hw.2.2.2.1, ← hfl, List.take_left]
        rw [frames_cons, i1, List.take_add, ht]
      · rcases List.mem_cons.1 hx with rfl | hx
        · exact hw.2.1
        · exact i5 x hx
    · rcases hnb : nextL b with ⟨r, n, how⟩
      rw [hnb] at h0
      have hl := next_len hnb
      rw [scan_stop hb hnb h0]
      have hlen : 0 < b.length := List.length_pos_iff.2 hb
      dsimp only at h0 ⊢
      refine ⟨by simp [framesL], by omega, by omega, by omega, by simp⟩
/-- the record of just one frame. -/
def oneL (b : List UInt8) : Option (List UInt8) := if (nextL b).2.2 = 0 ∧ (nextL b).2.1 = b.length then some (nextL b).1 else none
theorem scan_pos {b : List UInt8} (h : b ≠ []) (h0 : (scanL b).2.2 = 0) : (scanL b).1 ≠ [] := by
  by_cases hn : (nextL b).2.2 = 0
  · rw [scan_whole (r := (nextL b).1) (n := (nextL b).2.1) (by rw [← hn])]; simp
  · rw [scan_stop h rfl hn] at h0; exact absurd h0 hn
theorem one_scan (b : List UInt8) : oneL b = if (scanL b).1.length = 1 ∧ (scanL b).2.2 = 0 then some ((scanL b).1.headD []) else none := by
  unfold oneL
  by_cases hb : b = []
  · subst hb; rfl
  by_cases h0 : (nextL b).2.2 = 0
  · have e : nextL b = ((nextL b).1, (nextL b).2.1, 0) := by rw [← h0]
    have hw := next_whole e
    rw [scan_whole e]
    by_cases hn : (nextL b).2.1 = b.length
    · rw [if_pos ⟨h0, hn⟩, hn, List.drop_length, scan_nil]; simp
    · rw [if_neg (fun h => hn h.2), if_neg]
      rintro ⟨h1, h2⟩
      have hd : b.drop (nextL b).2.1 ≠ [] := fun e => by
        have := congrArg List.length e; simp at this; omega
      exact scan_pos hd h2 (List.eq_nil_of_length_eq_zero (by simpa using h1))
  · rw [if_neg (fun h => h0 h.1), scan_stop hb rfl h0, if_neg (by simp)]
end Go.Proofs.YtegekaocbalndaaGreatDoor
end
