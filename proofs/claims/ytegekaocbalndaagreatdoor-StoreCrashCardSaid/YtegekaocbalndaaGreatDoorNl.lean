/- a disk's calls, as the laws have them. -/
import Derived.Test.YtegekaocbalndaaGreatDoorMg17
set_option linter.unusedSimpArgs false
set_option linter.unusedVariables false
namespace Go.Proofs.YtegekaocbalndaaGreatDoor
open Go.RowKit

structure Ac where
  kind : Int
  name : Nm
  too : Nm
  n : Int
  b : List UInt8
def Ac.zero : Ac := ⟨0, [], [], 0, []⟩
/-- calls as they lie in memory. -/
def Acs (w : World) (B : Nat) (A : Option Addr) (l : List Ac) : Prop := ∀ i, i < l.length → ∃ b o Ab cb Tb tl tc, A = some ⟨b, o, none⟩ ∧ b < B ∧ w.cell? ⟨b, o + i * 6, none⟩ = some (.int .i64 (l.getD i .zero).kind) ∧ w.cell? ⟨b, o + i * 6 + 1, none⟩ = some (.string (str (l.getD i .zero).name)) ∧ w.cell? ⟨b, o + i * 6 + 2, none⟩ = some (.string (str (l.getD i .zero).too)) ∧
  w.cell? ⟨b, o + i * 6 + 3, none⟩ = some (.int .i64 (l.getD i .zero).n) ∧ w.cell? ⟨b, o + i * 6 + 4, none⟩ = some (.slice Ab (l.getD i .zero).b.length cb) ∧ w.cell? ⟨b, o + i * 6 + 5, none⟩ = some (.slice Tb tl tc) ∧ Bs w B Ab (l.getD i .zero).b ∧ (Ab = none → (l.getD i .zero).b = [])
theorem Acs.below {w w' : World} {B : Nat} {A : Option Addr} {l : List Ac} (h : Acs w B A l) (hb : Below B w w') : Acs w' B A l := fun i hi => by
  obtain ⟨b, o, Ab, cb, Tb, tl, tc, h1, h2, c0, c1, c2, c3, c4, c5, h3, h4⟩ := h i hi
  exact ⟨b, o, Ab, cb, Tb, tl, tc, h1, h2, (hb.cell (p := ⟨b, _, none⟩) h2).trans c0, (hb.cell (p := ⟨b, _, none⟩) h2).trans c1, (hb.cell (p := ⟨b, _, none⟩) h2).trans c2, (hb.cell (p := ⟨b, _, none⟩) h2).trans c3, (hb.cell (p := ⟨b, _, none⟩) h2).trans c4, (hb.cell (p := ⟨b, _, none⟩) h2).trans c5, h3.below hb, h4⟩
def AcW (l : List Ac) : Prop := ∀ a ∈ l, a.name.length ≤ 9223372036854775807 ∧ a.too.length ≤ 9223372036854775807 ∧ -9223372036854775808 ≤ a.n ∧ a.n ≤ 9223372036854775807
def okA (a : Ac) : Bool := decide (a.b.length ≤ 400 ∧ 0 ≤ a.kind ∧ a.kind ≤ 4)
def Dk.play (d : Dk) (a : Ac) : Dk :=
  if a.kind = 0 then (d.append a.name a.b).1 else if a.kind = 1 then (d.cut a.name a.n).1 else if a.kind = 2 then (d.sync a.name).1 else if a.kind = 3 then (d.rename a.name a.too).1 else (d.remove a.name).1
def Dk.plays (d : Dk) (l : List Ac) : Dk := l.foldl Dk.play d
theorem play_writes (d : Dk) (a : Ac) : (d.play a).writes ≤ d.writes + 1 := by
  unfold Dk.play
  split
  · exact append_writes _ _ _
  split
  · exact cut_writes _ _ _
  split
  · exact sync_writes _ _
  split
  · exact rename_writes _ _ _
  · exact remove_writes _ _
theorem plays_writes : ∀ (l : List Ac) (d : Dk), (d.plays l).writes ≤ d.writes + l.length
  | [], d => Nat.le_refl _
  | a :: l, d => by
    have h1 := plays_writes l (d.play a)
    have h2 := play_writes d a
    show ((d.play a).plays l).writes ≤ _
    simp only [List.length_cons]
    omega
theorem plays_snoc (d : Dk) (l : List Ac) (a : Ac) : d.plays (l ++ [a]) = (d.plays l).play a := by unfold Dk.plays; rw [List.foldl_append]; rfl
theorem plays_step (d : Dk) (l : List Ac) (j : Nat) (h : j < l.length) : d.plays (l.take (j + 1)) = (d.plays (l.take j)).play (l.getD j .zero) := by
  rw [List.take_add_one, List.getElem?_eq_getElem h, List.getD_eq_getElem?_getD, List.getElem?_eq_getElem h]
  exact plays_snoc _ _ _
/-- a disk that stops, beside one that never stops. -/
structure Sim (a b : Dk) (s : Nat) : Prop where
  size : a.size = b.size
  fs : a.fs = b.fs
  writes : a.writes = b.writes
  lb : b.left = -1
  la : a.left = (s : Int) - a.writes
  le : a.writes ≤ s
theorem Sim.wr {a b : Dk} {s : Nat} (h : Sim a b s) (hl : a.writes < s) (fs : Nl Fl) : Sim (a.wr fs).1 (b.wr fs).1 s ∧ (a.wr fs).2 = (b.wr fs).2 := by
  have h1 := h.la; have h2 := h.lb
  unfold Dk.wr
  rw [if_neg (by omega), if_neg (by omega)]
  refine ⟨⟨h.size, rfl, ?_, ?_, ?_, ?_⟩, rfl⟩
  · show a.writes + 1 = b.writes + 1
    rw [h.writes]
  · show (if 0 < b.left then b.left - 1 else b.left) = -1
    rw [if_neg (by omega)]; exact h2
  · show (if 0 < a.left then a.left - 1 else a.left) = (s : Int) - ((a.writes + 1 : Nat) : Int)
    rw [if_pos (by omega)]; omega
  · show a.writes + 1 ≤ s
    omega
theorem Sim.play {a b : Dk} {s : Nat} (h : Sim a b s) (hl : a.writes < s) (x : Ac) : Sim (a.play x) (b.play x) s := by
  have hw := fun fs => (h.wr hl fs).1
  have e1 : ∀ k, a.has k = b.has k := fun k => by unfold Dk.has; rw [h.fs]
  have e2 : ∀ k, a.file k = b.file k := fun k => by unfold Dk.file; rw [h.fs]
  have e3 : a.used = b.used := by unfold Dk.used; rw [h.fs]
  unfold Dk.play
  split
  · unfold Dk.append
    rw [e1, e2, e3, h.size, h.fs]
    split
    · exact h
    split
    · exact h
    exact hw _
  split
  · unfold Dk.cut
    rw [e1, e2, h.fs]
    split
    · exact h
    split
    · exact h
    split
    · exact h
    exact hw _
  split
  · unfold Dk.sync
    rw [e1, e2, h.fs]
    split
    · exact h
    exact hw _
  split
  · unfold Dk.rename
    rw [e1, e2, h.fs]
    split
    · exact h
    split
    · exact h
    split
    · exact h
    exact hw _
  · unfold Dk.remove
    rw [e1, h.fs]
    split
    · exact h
    exact hw _
theorem wr_still {d : Dk} (h : d.left = 0) (fs : Nl Fl) : (d.wr fs).1 = d := by unfold Dk.wr; rw [if_pos h]
theorem play_still {d : Dk} (h : d.left = 0) (x : Ac) : d.play x = d := by
  have hw := wr_still h
  unfold Dk.play
  split
  · unfold Dk.append
    split
    · rfl
    split
    · rfl
    exact hw _
  split
  · unfold Dk.cut
    split
    · rfl
    split
    · rfl
    split
    · rfl
    exact hw _
  split
  · unfold Dk.sync
    split
    · rfl
    exact hw _
  split
  · unfold Dk.rename
    split
    · rfl
    split
    · rfl
    split
    · rfl
    exact hw _
  · unfold Dk.remove
    split
    · rfl
    exact hw _
theorem plays_still {d : Dk} (h : d.left = 0) : ∀ l : List Ac, d.plays l = d
  | [] => rfl
  | x :: l => by
    show (d.play x).plays l = d
    rw [play_still h]
    exact plays_still h l
/-- both, behind some of the calls; the one that stops, behind all. -/
theorem Sim.all {a b : Dk} {s : Nat} (h : Sim a b s) (l r : List Ac) (hs : Sim (a.plays l) (b.plays l) s) (hr : r = [] ∨ (b.plays l).writes = s) : a.plays (l ++ r) = a.plays l := by
  rcases hr with rfl | hr
  · rw [List.append_nil]
  · have : (a.plays l).left = 0 := by have h1 := hs.la; have h2 := hs.writes; omega
    have h3 := plays_still this r
    unfold Dk.plays at *
    rw [List.foldl_append]
    exact h3
end Go.Proofs.YtegekaocbalndaaGreatDoor
