/- a log alone on its disk: plain; the chapter's example. -/
import Derived.Test.YtdmodhcbcpmadaaDoorNd
set_option linter.unusedSimpArgs false
set_option linter.unusedVariables false
namespace Go.Proofs.YtdmodhcbcpmadaaDoor
open Go.RowKit

/-- a disk that has nothing but a log's file. -/
structure OneF (d : Dk) (n : Nat) (b : List UInt8) : Prop where
  size : d.size = n
  left : d.left = -1
  fs : (d.fs = [] ∧ b = []) ∨ d.fs = [([108], ⟨b, b.length, true⟩)]
theorem OneF.empty (n : Nat) : OneF (emptyDk n) n [] := ⟨rfl, rfl, .inl ⟨rfl, rfl⟩⟩
theorem lopen_empty (n res : Nat) (h1 : 1 ≤ res) (h2 : res ≤ 67108864) : lopen (emptyDk n) [108] res = ⟨emptyDk n, some ⟨[108], res, 0, 0, false⟩, [], 0⟩ := by
  unfold lopen
  rw [if_neg (by rintro (h | h | h); exact absurd h (by decide); omega; omega)]
  rw [if_neg (show ¬ 0 < (emptyDk n).loose [108] from by show ¬ 0 < 0; decide)]
  unfold lopen2
  rw [if_neg (fun h => h rfl)]
  show (if (0 : Nat) = 2 then _ else _) = _
  rw [if_neg (by decide)]
  unfold lopen3
  show (if (0 : Nat) ≠ 0 then _ else _) = _
  rw [if_neg (fun h => h rfl)]
  show (if (res : Int) < ((0 : Nat) : Int) then _ else _) = _
  rw [if_neg (by omega)]
  rfl
theorem OneF.used {d : Dk} {n : Nat} {b : List UInt8} (h : OneF d n b) : d.used = b.length := by
  unfold Dk.used
  rcases h.fs with ⟨h1, h2⟩ | h1
  · rw [h1, h2]; rfl
  · rw [h1]; simp [total, flen]
theorem OneF.file {d : Dk} {n : Nat} {b : List UInt8} (h : OneF d n b) : (d.file [108]).b = b := by
  unfold Dk.file
  rcases h.fs with ⟨h1, h2⟩ | h1
  · rw [h1, h2]; rfl
  · rw [h1]; rfl
theorem OneF.append {d : Dk} {n : Nat} {b f : List UInt8} (h : OneF d n b) (hn : b.length + f.length ≤ n) : ∃ s t, d.append [108] f = (⟨n, [([108], ⟨b ++ f, s, t⟩)], -1, d.writes + 1⟩, 0) := by
  have hu := h.used
  obtain ⟨h1, h2, h3⟩ := h
  have hw : ∀ fs, d.wr fs = (⟨n, fs, -1, d.writes + 1⟩, 0) := fun fs => by unfold Dk.wr; rw [if_neg (by omega)]; unfold Dk.tick; rw [h1, h2]; rfl
  unfold Dk.append
  rw [if_neg (by decide), if_neg (by rw [hu, h1]; rintro (h | h); rcases h3 with ⟨h4, h5⟩ | h4; rw [h4] at h; exact absurd h.2 (by decide); rw [h4] at h; exact absurd h.2 (by simp); omega), hw]
  rcases h3 with ⟨h4, h5⟩ | h4
  · subst h5
    refine ⟨0, false, ?_⟩
    unfold Dk.file; rw [h4]; rfl
  · refine ⟨b.length, true, ?_⟩
    unfold Dk.file; rw [h4]; rfl
theorem commit_one {d : Dk} {n : Nat} {b rec : List UInt8} {L : Lg} (h : OneF d n b) (hn : L.name = [108]) (hb : L.broken = false) (hs : L.size = b.length) (hr : L.reserve ≤ n) (hl : rec.length ≤ 65536) :
    (L.reserve < b.length + (rec.length + 12) ∧ lcommit L d rec = (L, d, 12)) ∨
    (b.length + (rec.length + 12) ≤ L.reserve ∧ ∃ d', lcommit L d rec = (⟨[108], L.reserve, L.n + 1, (b ++ frameL rec).length, false⟩, d', 0) ∧ OneF d' n (b ++ frameL rec) ∧ d'.writes = d.writes + 2) := by
  unfold lcommit
  rw [if_neg (by rw [hb]; decide), if_neg (by omega), hs]
  by_cases hq : L.reserve < b.length + (rec.length + 12)
  · exact .inl ⟨hq, by rw [if_pos hq]⟩
  · refine .inr ⟨by omega, ?_⟩
    rw [if_neg hq, hn]
    obtain ⟨s, t, ha⟩ := h.append (f := frameL rec) (by rw [frame_length]; omega)
    rw [ha]
    refine ⟨⟨n, [([108], ⟨b ++ frameL rec, (b ++ frameL rec).length, true⟩)], -1, d.writes + 2⟩, ?_, ⟨rfl, rfl, .inr rfl⟩, rfl⟩
    unfold lcommit2
    rw [if_neg (fun h => h rfl)]
    have hsy : (Dk.mk n [([108], ⟨b ++ frameL rec, s, t⟩)] (-1) (d.writes + 1)).sync [108] = (⟨n, [([108], ⟨b ++ frameL rec, (b ++ frameL rec).length, true⟩)], -1, d.writes + 2⟩, 0) := rfl
    show lcommit3 L ((Dk.mk n [([108], ⟨b ++ frameL rec, s, t⟩)] (-1) (d.writes + 1)).sync L.name) (rec.length + 12) = _
    rw [hn, hsy]
    unfold lcommit3
    rw [if_neg (fun h => h rfl), hn, hb, hs, List.length_append, frame_length]
end Go.Proofs.YtdmodhcbcpmadaaDoor
