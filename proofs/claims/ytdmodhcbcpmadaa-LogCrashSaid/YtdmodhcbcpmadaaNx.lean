/- LogCrash: plain. -/
import Derived.Test.YtdmodhcbcpmadaaMg9
import Derived.Test.YtdmodhcbcpmadaaMw
import Derived.Test.YtdmodhcbcpmadaaMg3
set_option linter.unusedSimpArgs false
set_option linter.unusedVariables false
namespace Go.Proofs.Ytdmodhcbcpmadaa
open Go.RowKit

/-- the disk of a log whose records are S, all safe. -/
def Fs1 (d : Dk) (S : List (List UInt8)) : Prop := (d.fs = [] ∧ S = []) ∨ d.fs = [([108], ⟨framesL S, (framesL S).length, true⟩)]
/-- before any write failed. -/
structure P1 (d : Dk) (L : Lg) (res : Nat) (S : List (List UInt8)) : Prop where
  size : d.size = 10000
  left : -1 ≤ d.left
  fs : Fs1 d S
  log : L = ⟨[108], res, S.length, (framesL S).length, false⟩
  fits : (framesL S).length ≤ res
  small : ∀ r ∈ S, r.length ≤ 300
  few : d.writes ≤ 2 * S.length
/-- behind: of x all or nothing may be there. -/
structure P2 (d : Dk) (L : Lg) (res : Nat) (S : List (List UInt8)) (x : List UInt8) : Prop where
  size : d.size = 10000
  fs : Fs1 d S ∨ ∃ kept, d.fs = [([108], ⟨framesL S ++ frameL x, (framesL S).length, kept⟩)] ∧ (kept = false → S = [])
  broken : L.broken = true
  ok : L.Ok
  fits : (framesL S).length + (x.length + 12) ≤ res
  small : ∀ r ∈ S, r.length ≤ 300
  smallx : x.length ≤ 300
  few : d.writes ≤ 1000
theorem frames_len (S : List (List UInt8)) : S.length ≤ (framesL S).length := by
  induction S with
  | nil => exact Nat.le_refl _
  | cons r S ih => rw [frames_cons, List.length_append, frame_length, List.length_cons]; omega
theorem P1.ok {d : Dk} {L : Lg} {res : Nat} {S : List (List UInt8)} (h : P1 d L res S) (hr : res ≤ 67108864) : L.Ok := by
  rw [h.log]
  exact ⟨hr, h.fits, frames_len S, by show 1 ≤ 1000; decide⟩
theorem fs1_used {d : Dk} {S : List (List UInt8)} (h : Fs1 d S) : d.used = (framesL S).length := by
  unfold Dk.used
  rcases h with ⟨h1, h2⟩ | h1
  · rw [h1, h2]; rfl
  · rw [h1]; simp [total, flen]
theorem P2.used {d : Dk} {L : Lg} {res : Nat} {S : List (List UInt8)} {x : List UInt8} (h : P2 d L res S x) : d.used ≤ res := by
  rcases h.fs with h1 | ⟨k, h1, _⟩
  · rw [fs1_used h1]; have := h.fits; omega
  · unfold Dk.used
    rw [h1]
    have := h.fits
    simp only [total, flen, List.map_cons, List.map_nil, List.sum_cons, List.sum_nil, List.length_append, frame_length]
    omega
theorem P1.used {d : Dk} {L : Lg} {res : Nat} {S : List (List UInt8)} (h : P1 d L res S) : d.used ≤ res := by rw [fs1_used h.fs]; exact h.fits
/-- an append that finds room. -/
theorem fs1_append {d : Dk} {S : List (List UInt8)} {f : List UInt8} (h : Fs1 d S) (hs : d.size = 10000) (hl : (framesL S).length + f.length ≤ 10000) :
    ∃ kept, (kept = false → S = []) ∧ d.append [108] f = d.wr [([108], ⟨framesL S ++ f, (framesL S).length, kept⟩)] := by
  have hu := fs1_used h
  unfold Dk.append
  rw [if_neg (by decide), if_neg (by
    rw [hu, hs]
    rintro (h4 | h4)
    · rcases h with ⟨h5, _⟩ | h5
      · rw [h5] at h4; exact absurd h4.2 (by decide)
      · rw [h5] at h4; exact absurd h4.2 (by simp)
    · omega)]
  rcases h with ⟨h4, h5⟩ | h4
  · subst h5
    refine ⟨false, fun _ => rfl, ?_⟩
    unfold Dk.file; rw [h4]; rfl
  · refine ⟨true, (fun e => by cases e), ?_⟩
    unfold Dk.file; rw [h4]; rfl
theorem commit_p1 {d : Dk} {L : Lg} {res : Nat} {S : List (List UInt8)} (h : P1 d L res S) (hr : res ≤ 5000) (x : List UInt8) (hx : x.length ≤ 300) (hS : S.length ≤ 40) :
    (res < (framesL S).length + (x.length + 12) ∧ lcommit L d x = (L, d, 12)) ∨
    ((framesL S).length + (x.length + 12) ≤ res ∧ ((∃ L' d', lcommit L d x = (L', d', 0) ∧ P1 d' L' res (S ++ [x])) ∨ ∃ L' d', lcommit L d x = (L', d', 13) ∧ P2 d' L' res S x)) := by
  have hlog := h.log
  have hok := h.ok (by omega)
  unfold lcommit
  rw [if_neg (by rw [hlog]; show ¬ false = true; decide), if_neg (by omega)]
  have e1 : L.reserve = res := by rw [hlog]
  have e2 : L.size = (framesL S).length := by rw [hlog]
  have e3 : L.name = [108] := by rw [hlog]
  have e4 : L.broken = false := by rw [hlog]
  have e5 : L.n = S.length := by rw [hlog]
  rw [e1, e2, e3]
  by_cases hq : res < (framesL S).length + (x.length + 12)
  · exact .inl ⟨hq, by rw [if_pos hq]⟩
  refine .inr ⟨by omega, ?_⟩
  rw [if_neg hq]
  obtain ⟨kept, hk, ha⟩ := fs1_append (f := frameL x) h.fs h.size (by rw [frame_length]; omega)
  rw [ha]
  have hfew := h.few
  have hleft := h.left
  by_cases h0 : d.left = 0
  · right
    have hw : d.wr [([108], ⟨framesL S ++ frameL x, (framesL S).length, kept⟩)] = (d, 13) := by unfold Dk.wr; rw [if_pos h0]
    rw [hw]
    refine ⟨⟨L.name, L.reserve, L.n, L.size, true⟩, d, rfl, h.size, .inl h.fs, rfl, ⟨hok.reserve, hok.size, hok.n, hok.name⟩, by omega, h.small, hx, by omega⟩
  have hw : ∀ (D : Dk) fs, D.left ≠ 0 → D.wr fs = (D.tick fs, 0) := fun D fs hD => by unfold Dk.wr; rw [if_neg hD]
  rw [hw d _ h0]
  unfold lcommit2
  rw [if_neg (fun h => h rfl), e3]
  generalize hD1 : d.tick [([108], ⟨framesL S ++ frameL x, (framesL S).length, kept⟩)] = D1
  have f1 : D1.fs = [([108], ⟨framesL S ++ frameL x, (framesL S).length, kept⟩)] := by rw [← hD1]; rfl
  have f2 : D1.size = 10000 := by rw [← hD1]; exact h.size
  have f3 : D1.writes = d.writes + 1 := by rw [← hD1]; rfl
  have f4 : D1.left = if 0 < d.left then d.left - 1 else d.left := by rw [← hD1]; rfl
  have hsy : D1.sync [108] = D1.wr [([108], ⟨framesL S ++ frameL x, (framesL S ++ frameL x).length, true⟩)] := by
    unfold Dk.sync Dk.has Dk.file
    rw [f1]; rfl
  rw [hsy]
  by_cases h1 : D1.left = 0
  · right
    have hw2 : D1.wr [([108], ⟨framesL S ++ frameL x, (framesL S ++ frameL x).length, true⟩)] = (D1, 13) := by unfold Dk.wr; rw [if_pos h1]
    rw [hw2]
    refine ⟨⟨L.name, L.reserve, L.n, L.size, true⟩, D1, rfl, f2, .inr ⟨kept, f1, hk⟩, rfl, ⟨hok.reserve, hok.size, hok.n, hok.name⟩, by omega, h.small, hx, by omega⟩
  · left
    rw [hw D1 _ h1]
    have ef : framesL (S ++ [x]) = framesL S ++ frameL x := by rw [frames_app, frames_one]
    refine ⟨⟨L.name, L.reserve, L.n + 1, L.size + (x.length + 12), L.broken⟩, _, rfl, f2, ?_, .inr ?_, ?_, ?_, ?_, ?_⟩
    · show -1 ≤ if 0 < D1.left then D1.left - 1 else D1.left
      rw [f4] at h1 ⊢
      split <;> split at h1 <;> omega
    · rw [ef]; rfl
    · rw [e1, e2, e3, e4, e5, ef, List.length_append, List.length_append, frame_length]; rfl
    · rw [ef, List.length_append, frame_length]; omega
    · intro r hr'
      rcases List.mem_append.1 hr' with h5 | h5
      · exact h.small r h5
      · rw [List.mem_singleton.1 h5]; exact hx
    · show D1.writes + 1 ≤ 2 * (S ++ [x]).length
      rw [List.length_append, List.length_singleton]; omega
theorem commit_p2 {d : Dk} {L : Lg} (h : L.broken = true) (x : List UInt8) : lcommit L d x = (L, d, 14) := by unfold lcommit; rw [if_pos h]
theorem fits_p1 {d : Dk} {L : Lg} {res : Nat} {S : List (List UInt8)} (h : P1 d L res S) (n : Nat) (hn : n ≤ 300) : lfits L n = decide ((framesL S).length + (n + 12) ≤ res) := by
  unfold lfits
  rw [h.log]
  simp only []
  rw [decide_eq_decide]
  omega
theorem fs1_crash {d : Dk} {S : List (List UInt8)} (h : Fs1 d S) (hs : d.size = 10000) (t : List Int) : OneF (d.crash t) 10000 (framesL S) := by
  refine ⟨hs, rfl, ?_⟩
  unfold Dk.crash
  rcases h with ⟨h1, h2⟩ | h1
  · left; rw [h1, h2]; exact ⟨rfl, rfl⟩
  · right
    rw [h1]
    have ht : tornF ⟨framesL S, (framesL S).length, true⟩ t = ⟨framesL S, (framesL S).length, true⟩ := by unfold tornF; rw [if_neg (by simp)]
    unfold crashL
    rw [ht]
    rfl
theorem crash_p2 {d : Dk} {L : Lg} {res : Nat} {S : List (List UInt8)} {x : List UInt8} (h : P2 d L res S x) (t : List Int) : ∃ k, k ≤ x.length + 12 ∧ OneF (d.crash t) 10000 (framesL S ++ (frameL x).take k) := by
  rcases h.fs with h1 | ⟨kept, h1, hk⟩
  · exact ⟨0, by omega, by rw [List.take_zero, List.append_nil]; exact fs1_crash h1 h.size t⟩
  · have hfl := frame_length x
    have ht : tornF ⟨framesL S ++ frameL x, (framesL S).length, kept⟩ t = ⟨framesL S ++ (frameL x).take (keepOf t (x.length + 12)), (framesL S ++ (frameL x).take (keepOf t (x.length + 12))).length, kept⟩ := by
      have hke := keepOf_le t (x.length + 12)
      unfold tornF
      rw [if_pos (by simp only [List.length_append]; omega)]
      have e : (framesL S ++ frameL x).length - (framesL S).length = x.length + 12 := by rw [List.length_append]; omega
      simp only [e]
      rw [List.take_length_add_append, List.length_append, List.length_take, Nat.min_eq_left (by omega)]
    refine ⟨keepOf t (x.length + 12), keepOf_le _ _, h.size, rfl, ?_⟩
    unfold Dk.crash
    simp only []
    rw [h1]
    unfold crashL
    simp only []
    rw [ht]
    by_cases hg : goneF ⟨framesL S ++ (frameL x).take (keepOf t (x.length + 12)), (framesL S ++ (frameL x).take (keepOf t (x.length + 12))).length, kept⟩ = true
    · left
      rw [if_pos hg]
      refine ⟨rfl, ?_⟩
      unfold goneF at hg
      simp only [Bool.and_eq_true, decide_eq_true_eq] at hg
      exact List.eq_nil_of_length_eq_zero hg.2
    · right
      rw [if_neg hg]
      rfl
theorem onef_loose {d : Dk} {n : Nat} {b : List UInt8} (h : OneF d n b) : d.loose [108] = 0 := by
  unfold Dk.loose Dk.file
  rcases h.fs with ⟨h1, h2⟩ | h1
  · rw [h1]; rfl
  · rw [h1]; show b.length - b.length = 0; omega
/-- opened: what is whole is read; a beginning of one more is cut off. -/
theorem lopen_onef {d : Dk} {res : Nat} {S : List (List UInt8)} {x : List UInt8} {k : Nat} (hS : ∀ r ∈ S, r.length ≤ 65536) (hx : x.length ≤ 65536) (hk : k ≤ x.length + 12) (h : OneF d 10000 (framesL S ++ (frameL x).take k)) (h1 : 1 ≤ res) (h2 : res ≤ 5000) (hl : (framesL S).length + (x.length + 12) ≤ res) :
    ∃ R d', (R = S ∨ R = S ++ [x]) ∧ lopen d [108] res = ⟨d', some ⟨[108], res, R.length, (framesL R).length, false⟩, R, 0⟩ ∧ OneF d' 10000 (framesL R) ∧ (framesL R).length ≤ res ∧ d'.writes ≤ d.writes + 1 := by
  have hfl := frame_length x
  have hscan := scan_frames S ((frameL x).take k) hS
  unfold lopen
  rw [if_neg (by rintro (h | h | h); exact absurd h (by decide); omega; omega), if_neg (by rw [onef_loose h]; omega), h.file, hscan]
  unfold lopen2
  rw [if_neg (fun h => h rfl)]
  by_cases hw : k = x.length + 12
  · subst hw
    have e : (frameL x).take (x.length + 12) = frameL x ++ [] := by rw [List.append_nil, List.take_of_length_le (by omega)]
    have hs1 := scan_whole (next_frame x [] hx)
    have hd : (frameL x ++ []).drop (x.length + 12) = [] := by rw [List.append_nil, List.drop_of_length_le (by omega)]
    rw [hd, scan_nil] at hs1
    have ef : framesL (S ++ [x]) = framesL S ++ frameL x := by rw [frames_app, frames_one]
    rw [e, hs1]
    rw [e, List.append_nil] at h
    refine ⟨S ++ [x], d, .inr rfl, ?_, by rw [ef]; exact h, by rw [ef, List.length_append]; omega, by omega⟩
    show (if (0 : Nat) = 2 then _ else _) = _
    rw [if_neg (by decide)]
    show lopen3 (if (0 : Nat) = 1 then _ else _) _ _ _ = _
    rw [if_neg (by decide)]
    unfold lopen3
    rw [if_neg (fun h => h rfl)]
    simp only []
    rw [if_neg (by omega), ef]
    simp [hfl]
  · have hs1 := scan_torn x hx k (by omega)
    rw [hs1]
    by_cases h0 : k = 0
    · subst h0
      rw [List.take_zero, List.append_nil] at h
      refine ⟨S, d, .inl rfl, ?_, h, by omega, by omega⟩
      show (if (0 : Nat) = 2 then _ else _) = _
      rw [if_neg (by decide)]
      show lopen3 (if (0 : Nat) = 1 then _ else _) _ _ _ = _
      rw [if_neg (by decide)]
      unfold lopen3
      rw [if_neg (fun h => h rfl)]
      simp only [List.append_nil, Nat.add_zero]
      rw [if_neg (by omega)]
      simp
    · simp only [if_neg h0]
      rw [if_neg (by decide), if_pos trivial]
      have hne : 0 < ((frameL x).take k).length := by rw [List.length_take]; omega
      rcases h.fs with ⟨h5, h6⟩ | h5
      · exfalso
        have := congrArg List.length h6
        rw [List.length_append, List.length_nil] at this
        omega
      have hcut : d.cut [108] (((framesL S).length + 0 : Nat) : Int) = (⟨10000, [([108], ⟨framesL S, (framesL S).length, true⟩)], -1, d.writes + 1⟩, 0) := by
        have hf : d.file [108] = ⟨framesL S ++ (frameL x).take k, (framesL S ++ (frameL x).take k).length, true⟩ := by unfold Dk.file; rw [h5]; rfl
        unfold Dk.cut
        rw [if_neg (by unfold Dk.has; rw [h5]; show ¬ true = false; decide), hf, if_neg (by simp only [List.length_append]; omega), if_neg (by simp)]
        unfold Dk.wr
        rw [if_neg (by rw [h.left]; decide)]
        unfold Dk.tick
        rw [h.left, h.size, h5]
        simp only [Int.toNat_natCast, Nat.add_zero]
        rw [List.take_left']
        · rfl
        · rfl
      rw [hcut]
      refine ⟨S, ⟨10000, [([108], ⟨framesL S, (framesL S).length, true⟩)], -1, d.writes + 1⟩, .inl rfl, ?_, ⟨rfl, rfl, .inr rfl⟩, by omega, Nat.le_refl _⟩
      unfold lopen3
      rw [if_neg (fun h => h rfl)]
      simp only [List.append_nil, Nat.add_zero]
      rw [if_neg (by omega)]
      simp
theorem lopen_again {d : Dk} {res : Nat} {R : List (List UInt8)} (hR : ∀ r ∈ R, r.length ≤ 65536) (h : OneF d 10000 (framesL R)) (h1 : 1 ≤ res) (h2 : res ≤ 5000) (hl : (framesL R).length ≤ res) : lopen d [108] res = ⟨d, some ⟨[108], res, R.length, (framesL R).length, false⟩, R, 0⟩ := by
  have hscan := scan_frames R [] hR
  rw [List.append_nil, scan_nil] at hscan
  unfold lopen
  rw [if_neg (by rintro (h | h | h); exact absurd h (by decide); omega; omega), if_neg (by rw [onef_loose h]; omega), h.file, hscan]
  unfold lopen2
  rw [if_neg (fun h => h rfl)]
  show (if (0 : Nat) = 2 then _ else _) = _
  rw [if_neg (by decide)]
  show lopen3 (if (0 : Nat) = 1 then _ else _) _ _ _ = _
  rw [if_neg (by decide)]
  unfold lopen3
  rw [if_neg (fun h => h rfl)]
  simp only [List.append_nil, Nat.add_zero]
  rw [if_neg (by omega)]
  simp
end Go.Proofs.Ytdmodhcbcpmadaa
