/- frames: what bytes say. Plain: no program. -/
import Derived.Test.YtjbpgjfnccmdaaaNum
set_option linter.unusedSimpArgs false
set_option linter.unusedVariables false
namespace Go.Proofs.Ytjbpgjfnccmdaaa

/-! ### the check -/
def cbit (c : UInt32) : UInt32 := if c.toNat % 2 = 1 then xor32 (shr32 c 1) 2197175160 else shr32 c 1
def cbits : Nat → UInt32 → UInt32
  | 0, c => c
  | n + 1, c => cbit (cbits n c)
def cstep (c : UInt32) (x : UInt8) : UInt32 := cbits 8 (xor32 c (toU32 x))
def crc (l : List UInt8) : UInt32 := l.foldl cstep 4294967295
def check (l : List UInt8) : UInt32 := not32 (crc l)
theorem xor32_toNat (a b : UInt32) : (xor32 a b).toNat = a.toNat ^^^ b.toNat := UInt32.toNat_xor a b
theorem xor_cancel {a b c : Nat} (h : a ^^^ c = b ^^^ c) : a = b := by
  have := congrArg (· ^^^ c) h
  simpa [Nat.xor_assoc] using this
theorem xor_cancel' {a b c : Nat} (h : c ^^^ a = c ^^^ b) : a = b := by
  rw [Nat.xor_comm c a, Nat.xor_comm c b] at h; exact xor_cancel h
theorem shr1_toNat (c : UInt32) : (shr32 c 1).toNat = c.toNat / 2 := by
  simp [shr32, UInt32.toNat_shiftRight, Nat.shiftRight_eq_div_pow]
theorem half_top (n : Nat) (h : n < 4294967296) : (n / 2).testBit 31 = false := Nat.testBit_lt_two_pow (by omega)
theorem cbit_inj {a b : UInt32} (h : cbit a = cbit b) : a = b := by
  have key : ∀ c : UInt32, (cbit c).toNat.testBit 31 = decide (c.toNat % 2 = 1) := by
    intro c
    unfold cbit
    split
    · rename_i h1
      rw [xor32_toNat, shr1_toNat, Nat.testBit_xor, half_top _ c.toNat_lt]
      simp [h1]; decide
    · rename_i h1
      rw [shr1_toNat, half_top _ c.toNat_lt]
      simp [h1]
  have k1 := key a
  have k2 := key b
  rw [h, k2] at k1
  have h2 := congrArg UInt32.toNat h
  unfold cbit at h2
  apply UInt32.toNat_inj.1
  by_cases ha : a.toNat % 2 = 1
  · have hb : b.toNat % 2 = 1 := by simpa [ha] using k1
    rw [if_pos ha, if_pos hb, xor32_toNat, xor32_toNat] at h2
    have h3 := xor_cancel h2
    rw [shr1_toNat, shr1_toNat] at h3
    omega
  · have hb : ¬ b.toNat % 2 = 1 := by simpa [ha] using k1
    rw [if_neg ha, if_neg hb, shr1_toNat, shr1_toNat] at h2
    omega
theorem cbits_inj {a b : UInt32} : ∀ n, cbits n a = cbits n b → a = b
  | 0, h => h
  | n + 1, h => cbits_inj n (cbit_inj h)
theorem cstep_left {a b : UInt32} {x : UInt8} (h : cstep a x = cstep b x) : a = b := by
  have := congrArg UInt32.toNat (cbits_inj 8 h)
  rw [xor32_toNat, xor32_toNat] at this
  exact UInt32.toNat_inj.1 (xor_cancel this)
theorem toU32_nat (x : UInt8) : (toU32 x).toNat = x.toNat := by simp [toU32]
theorem cstep_right {a : UInt32} {x y : UInt8} (h : cstep a x = cstep a y) : x = y := by
  have := congrArg UInt32.toNat (cbits_inj 8 h)
  rw [xor32_toNat, xor32_toNat] at this
  have := xor_cancel' this
  rw [toU32_nat, toU32_nat] at this
  exact UInt8.toNat_inj.1 this
theorem fold_ne : ∀ (l : List UInt8) {a b : UInt32}, a ≠ b → l.foldl cstep a ≠ l.foldl cstep b
  | [], _, _, h => h
  | x :: l, _, _, h => fold_ne l fun e => h (cstep_left e)
theorem not32_inj {a b : UInt32} (h : not32 a = not32 b) : a = b := by
  have h1 : ∀ c : UInt32, (not32 c).toNat = 4294967295 - c.toNat := fun c => by simp [not32, UInt32.toNat_not]
  have h2 := congrArg UInt32.toNat h
  rw [h1, h1] at h2
  have := u32_lt a; have := u32_lt b
  exact UInt32.toNat_inj.1 (by omega)
theorem check_set (l : List UInt8) (i : Nat) (y : UInt8) (hi : i < l.length) (hy : y ≠ l[i]) : check (l.set i y) ≠ check l := by
  intro h
  have h1 := not32_inj h
  have e1 : l = l.take i ++ l[i] :: l.drop (i + 1) := by rw [List.getElem_cons_drop, List.take_append_drop]
  have e2 : l.set i y = l.take i ++ y :: l.drop (i + 1) := by rw [List.set_eq_take_append_cons_drop, if_pos hi]
  unfold crc at h1
  rw [e2] at h1
  conv at h1 => rhs; rw [e1]
  rw [List.foldl_append, List.foldl_append, List.foldl_cons, List.foldl_cons] at h1
  exact fold_ne _ (fun e => hy (cstep_right e)) h1
theorem crc_snoc (l : List UInt8) (c : UInt8) : crc (l ++ [c]) = cstep (crc l) c := by simp [crc]

/-! ### numbers -/
def beb : Nat → Nat → List UInt8
  | 0, _ => []
  | k + 1, n => beb k (n / 256) ++ [UInt8.ofNat n]
def num (l : List UInt8) : Nat := l.foldl (fun a c => a * 256 + c.toNat) 0
theorem beb_length : ∀ k n, (beb k n).length = k
  | 0, _ => rfl
  | k + 1, n => by simp [beb, beb_length k]
theorem num_snoc (l : List UInt8) (c : UInt8) : num (l ++ [c]) = num l * 256 + c.toNat := by simp [num]
theorem num_beb : ∀ k n, n < 256 ^ k → num (beb k n) = n
  | 0, n, h => by simp at h; subst h; rfl
  | k + 1, n, h => by
    rw [beb, num_snoc, num_beb k _ (by rw [Nat.pow_succ] at h; omega)]
    simp; omega
theorem rev_ind {P : List UInt8 → Prop} (h0 : P []) (h1 : ∀ l c, P l → P (l ++ [c])) : ∀ l, P l := by
  have : ∀ l : List UInt8, P l.reverse := fun l => by
    induction l with
    | nil => exact h0
    | cons c l ih => rw [List.reverse_cons]; exact h1 _ _ ih
  intro l
  have := this l.reverse
  rwa [List.reverse_reverse] at this
theorem num_lt (l : List UInt8) : num l < 256 ^ l.length := by
  refine rev_ind (P := fun l => num l < 256 ^ l.length) (by simp [num]) (fun l c ih => ?_) l
  · rw [num_snoc, List.length_append, List.length_singleton, Nat.pow_succ]
    have := u8_lt c; omega
theorem beb_num (l : List UInt8) : beb l.length (num l) = l := by
  refine rev_ind (P := fun l => beb l.length (num l) = l) rfl (fun l c ih => ?_) l
  · rw [num_snoc, List.length_append, List.length_singleton, beb]
    have := u8_lt c
    rw [show (num l * 256 + c.toNat) / 256 = num l by omega, ih]
    congr 2
    apply UInt8.toNat_inj.1
    simp
theorem num_inj {a b : List UInt8} (hl : a.length = b.length) (h : num a = num b) : a = b := by
  rw [← beb_num a, ← beb_num b, h, hl]

/-! ### parts of bytes -/
def seg (b : List UInt8) (o n : Nat) : List UInt8 := (b.drop o).take n
theorem seg_length {b : List UInt8} {o n : Nat} (h : o + n ≤ b.length) : (seg b o n).length = n := by simp [seg]; omega
theorem seg_get (b : List UInt8) (o n j : Nat) (h : j < n) : (seg b o n)[j]? = b[o + j]? := by simp [seg, List.getElem?_take, h]
theorem seg_set_in (b : List UInt8) (o n i : Nat) (y : UInt8) (h1 : o ≤ i) (h2 : i < o + n) : seg (b.set i y) o n = (seg b o n).set (i - o) y := by
  apply List.ext_getElem?
  intro j
  by_cases hj : j < n
  · rw [seg_get _ _ _ _ hj, List.getElem?_set, List.getElem?_set, seg_get _ _ _ _ hj]
    by_cases e : i = o + j
    · have e' : i - o = j := by omega
      rw [if_pos e, if_pos e', e']
      rw [e]
      have hl : j < (seg b o n).length ↔ o + j < b.length := by simp [seg]; omega
      by_cases hb : o + j < b.length
      · rw [if_pos hb, if_pos (hl.2 hb)]
      · rw [if_neg hb, if_neg (fun h => hb (hl.1 h))]
    · have e' : ¬ i - o = j := by omega
      rw [if_neg e, if_neg e']
  · have h1 : (seg (b.set i y) o n).length ≤ j := by simp [seg]; omega
    have h2 : ((seg b o n).set (i - o) y).length ≤ j := by simp [seg]; omega
    rw [List.getElem?_eq_none h1, List.getElem?_eq_none h2]
theorem seg_set_out (b : List UInt8) (o n i : Nat) (y : UInt8) (h : i < o ∨ o + n ≤ i) : seg (b.set i y) o n = seg b o n := by
  apply List.ext_getElem?
  intro j
  by_cases hj : j < n
  · rw [seg_get _ _ _ _ hj, List.getElem?_set, seg_get _ _ _ _ hj, if_neg (by omega)]
  · have h1 : (seg (b.set i y) o n).length ≤ j := by simp [seg]; omega
    have h2 : (seg b o n).length ≤ j := by simp [seg]; omega
    rw [List.getElem?_eq_none h1, List.getElem?_eq_none h2]
theorem seg_app_left {a b : List UInt8} {o n : Nat} (h : o + n ≤ a.length) : seg (a ++ b) o n = seg a o n := by
  unfold seg
  rw [List.drop_append_of_le_length (by omega), List.take_append_of_le_length (by simp; omega)]
theorem seg_app_at {a b : List UInt8} {o n : Nat} (h : o = a.length) : seg (a ++ b) o n = b.take n := by
  unfold seg; subst h; rw [List.drop_left]
theorem seg_drop (b : List UInt8) (o n : Nat) : b.drop o = seg b o n ++ b.drop (o + n) := by
  unfold seg; rw [← List.drop_drop, List.take_append_drop]
theorem seg_all {b : List UInt8} {n : Nat} (h : b.length = n) : seg b 0 n = b := by simp [seg, ← h]

/-! ### frames -/
def frameL (r : List UInt8) : List UInt8 := beb 4 r.length ++ (beb 4 (4294967295 - r.length) ++ (r ++ beb 4 (check r).toNat))
theorem frame_length (r : List UInt8) : (frameL r).length = r.length + 12 := by simp [frameL, beb_length]; omega
/-- the record in front, its frame's bytes, how it is (0 whole, 1 torn, 2 bad). -/
def nextL (b : List UInt8) : List UInt8 × Nat × Nat :=
  if b.length < 8 then ([], 0, 1)
  else if num (seg b 4 4) ≠ 4294967295 - num (seg b 0 4) ∨ 65536 < num (seg b 0 4) then ([], 0, 2)
  else if b.length < num (seg b 0 4) + 12 then ([], 0, 1)
  else if seg b (8 + num (seg b 0 4)) 4 ≠ beb 4 (check (seg b 8 (num (seg b 0 4)))).toNat then ([], 0, 2)
  else (seg b 8 (num (seg b 0 4)), num (seg b 0 4) + 12, 0)
theorem frame_s0 (r t : List UInt8) : seg (frameL r ++ t) 0 4 = beb 4 r.length := by
  rw [seg_app_left (by rw [frame_length]; omega), frameL, seg_app_left (by simp [beb_length]), seg_all (beb_length _ _)]
theorem frame_s4 (r t : List UInt8) : seg (frameL r ++ t) 4 4 = beb 4 (4294967295 - r.length) := by
  rw [seg_app_left (by rw [frame_length]; omega), frameL, seg_app_at (beb_length _ _).symm, List.take_append_of_le_length (by simp [beb_length]), List.take_of_length_le (by simp [beb_length])]
theorem frame_s8 (r t : List UInt8) : seg (frameL r ++ t) 8 r.length = r := by
  rw [seg_app_left (by rw [frame_length]; omega), frameL, ← List.append_assoc, seg_app_at (by simp [beb_length]), List.take_append_of_le_length (Nat.le_refl _), List.take_length]
theorem frame_sc (r t : List UInt8) : seg (frameL r ++ t) (8 + r.length) 4 = beb 4 (check r).toNat := by
  rw [seg_app_left (by rw [frame_length]; omega), frameL, ← List.append_assoc, ← List.append_assoc, seg_app_at (by simp [beb_length]; omega), List.take_of_length_le (by simp [beb_length])]
theorem next_frame (r t : List UInt8) (h : r.length ≤ 65536) : nextL (frameL r ++ t) = (r, r.length + 12, 0) := by
  have hn : num (beb 4 r.length) = r.length := num_beb 4 _ (by omega)
  have hm : num (beb 4 (4294967295 - r.length)) = 4294967295 - r.length := num_beb 4 _ (by omega)
  have hl : (frameL r ++ t).length = r.length + 12 + t.length := by rw [List.length_append, frame_length]
  unfold nextL
  rw [frame_s0, frame_s4, hn, hm, frame_s8, frame_sc, hl, if_neg (by omega), if_neg (by omega), if_neg (by omega), if_neg (by simp)]
theorem next_torn (r : List UInt8) (h : r.length ≤ 65536) (k : Nat) (hk : k < r.length + 12) : nextL ((frameL r).take k) = ([], 0, 1) := by
  have hl : ((frameL r).take k).length = k := by rw [List.length_take, frame_length]; omega
  unfold nextL
  rw [hl]
  by_cases h8 : k < 8
  · rw [if_pos h8]
  · have e : ∀ o, o + 4 ≤ k → seg ((frameL r).take k) o 4 = seg (frameL r ++ []) o 4 := fun o ho => by
      rw [List.append_nil]
      apply List.ext_getElem?
      intro j
      by_cases hj : j < 4
      · rw [seg_get _ _ _ _ hj, seg_get _ _ _ _ hj, List.getElem?_take, if_pos (by omega)]
      · rw [List.getElem?_eq_none (by simp [seg]; omega), List.getElem?_eq_none (by simp [seg]; omega)]
    have hn : num (beb 4 r.length) = r.length := num_beb 4 _ (by omega)
    have hm : num (beb 4 (4294967295 - r.length)) = 4294967295 - r.length := num_beb 4 _ (by omega)
    rw [e 0 (by omega), e 4 (by omega), frame_s0, frame_s4, hn, hm, if_neg h8, if_neg (by omega), if_pos hk]
theorem next_whole {b r : List UInt8} {n : Nat} (h : nextL b = (r, n, 0)) : n = r.length + 12 ∧ r.length ≤ 65536 ∧ n ≤ b.length ∧ b = frameL r ++ b.drop n ∧ r = seg b 8 r.length := by
  unfold nextL at h
  by_cases h1 : b.length < 8
  · rw [if_pos h1] at h; simp at h
  rw [if_neg h1] at h
  by_cases h2 : num (seg b 4 4) ≠ 4294967295 - num (seg b 0 4) ∨ 65536 < num (seg b 0 4)
  · rw [if_pos h2] at h; simp at h
  rw [if_neg h2] at h
  by_cases h3 : b.length < num (seg b 0 4) + 12
  · rw [if_pos h3] at h; simp at h
  rw [if_neg h3] at h
  by_cases h4 : seg b (8 + num (seg b 0 4)) 4 ≠ beb 4 (check (seg b 8 (num (seg b 0 4)))).toNat
  · rw [if_pos h4] at h; simp at h
  rw [if_neg h4] at h
  have h4' := Classical.not_not.1 h4
  obtain ⟨hm, hn⟩ : num (seg b 4 4) = 4294967295 - num (seg b 0 4) ∧ num (seg b 0 4) ≤ 65536 := by omega
  simp only [Prod.mk.injEq, and_true] at h
  obtain ⟨hr, rfl⟩ := h
  have b0 := beb_num (seg b 0 4)
  have b4 := beb_num (seg b 4 4)
  rw [seg_length (by omega)] at b0 b4
  generalize num (seg b 0 4) = n at *
  have hrl : r.length = n := by rw [← hr]; exact seg_length (by omega)
  subst hrl
  rw [hr] at h4'
  refine ⟨rfl, hn, by omega, ?_, hr.symm⟩
  have e0 : b = seg b 0 4 ++ b.drop 4 := seg_drop b 0 4
  have e4 : b.drop 4 = seg b 4 4 ++ b.drop 8 := seg_drop b 4 4
  have e8 : b.drop 8 = r ++ b.drop (8 + r.length) := by conv => lhs; rw [seg_drop b 8 r.length, hr]
  have ec : b.drop (8 + r.length) = seg b (8 + r.length) 4 ++ b.drop (r.length + 12) := by rw [show r.length + 12 = 8 + r.length + 4 by omega]; exact seg_drop b _ 4
  unfold frameL
  rw [b0, ← hm, b4, ← h4', List.append_assoc, List.append_assoc, List.append_assoc, ← ec, ← e8, ← e4, ← e0]
theorem next_len {b r : List UInt8} {n how : Nat} (h : nextL b = (r, n, how)) : how = 0 ∨ ((how = 1 ∨ how = 2) ∧ r = [] ∧ n = 0) := by
  unfold nextL at h
  repeat (split at h; · (simp only [Prod.mk.injEq] at h; obtain ⟨rfl, rfl, rfl⟩ := h; simp))
  simp only [Prod.mk.injEq] at h
  exact .inl h.2.2.symm
/-- one byte of a frame changed. -/
theorem next_turned (r t : List UInt8) (h : r.length ≤ 65536) (i : Nat) (y : UInt8) (hi : i < r.length + 12) (hy : (frameL r ++ t)[i]? ≠ some y) : nextL ((frameL r ++ t).set i y) = ([], 0, 2) := by
  have hn : num (beb 4 r.length) = r.length := num_beb 4 _ (by omega)
  have hm : num (beb 4 (4294967295 - r.length)) = 4294967295 - r.length := num_beb 4 _ (by omega)
  have hl : (frameL r ++ t).length = r.length + 12 + t.length := by rw [List.length_append, frame_length]
  have s0 := frame_s0 r t; have s4 := frame_s4 r t; have s8 := frame_s8 r t; have sc := frame_sc r t
  generalize hF : frameL r ++ t = F at *
  have hne : ∀ o n, o ≤ i → i < o + n → o + n ≤ F.length → (seg F o n).set (i - o) y ≠ seg F o n := fun o n h1 h2 h3 e => by
    have e1 : ((seg F o n).set (i - o) y)[i - o]? = (seg F o n)[i - o]? := by rw [e]
    rw [List.getElem?_set_self (by rw [seg_length h3]; omega), seg_get _ _ _ _ (by omega), show o + (i - o) = i by omega] at e1
    exact hy e1.symm
  unfold nextL
  rw [List.length_set, hl, if_neg (by omega)]
  by_cases c0 : i < 4
  · rw [seg_set_in F 0 4 i y (by omega) (by omega), seg_set_out F 4 4 i y (by omega)]
    have := hne 0 4 (by omega) (by omega) (by omega)
    have h2 : num ((seg F 0 4).set (i - 0) y) ≠ num (seg F 0 4) := fun e => this (num_inj (by simp) e)
    rw [s0, hn] at h2
    rw [s0, s4, hm]
    have h3 := num_lt ((beb 4 r.length).set (i - 0) y)
    rw [List.length_set, beb_length] at h3
    rw [if_pos (by omega)]
  by_cases c4 : i < 8
  · rw [seg_set_out F 0 4 i y (by omega), seg_set_in F 4 4 i y (by omega) (by omega)]
    have := hne 4 4 (by omega) (by omega) (by omega)
    have h2 : num ((seg F 4 4).set (i - 4) y) ≠ num (seg F 4 4) := fun e => this (num_inj (by simp) e)
    rw [s4, hm] at h2
    rw [s0, s4, hn, if_pos (Or.inl h2)]
  rw [seg_set_out F 0 4 i y (by omega), seg_set_out F 4 4 i y (by omega), s0, s4, hn, hm, if_neg (by omega), if_neg (by omega)]
  by_cases c8 : i < 8 + r.length
  · rw [seg_set_in F 8 r.length i y (by omega) (by omega), seg_set_out F (8 + r.length) 4 i y (by omega)]
    have hd := hne 8 r.length (by omega) (by omega) (by omega)
    rw [s8] at hd ⊢
    rw [sc]
    refine if_pos fun e => ?_
    have e2 := congrArg num e
    rw [num_beb 4 _ (u32_lt _), num_beb 4 _ (u32_lt _)] at e2
    refine check_set r (i - 8) y (by omega) (fun e3 => hd ?_) (UInt32.toNat_inj.1 e2).symm
    rw [e3, List.set_getElem_self]
  · rw [seg_set_out F 8 r.length i y (by omega), seg_set_in F (8 + r.length) 4 i y (by omega) (by omega)]
    have hd := hne (8 + r.length) 4 (by omega) (by omega) (by omega)
    rw [s8, sc] at *
    exact if_pos hd
end Go.Proofs.Ytjbpgjfnccmdaaa
