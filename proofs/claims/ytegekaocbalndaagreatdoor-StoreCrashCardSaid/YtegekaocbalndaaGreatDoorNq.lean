/- two disks side by side; DiskStops. -/
import Derived.Test.YtegekaocbalndaaGreatDoorNm
import Derived.Test.YtegekaocbalndaaGreatDoorSm
set_option linter.unusedSimpArgs false
set_option linter.unusedVariables false
namespace Go.Proofs.YtegekaocbalndaaGreatDoor
open Go.RowKit

theorem Acs.one {w : World} {B : Nat} {A : Option Addr} {l : List Ac} (h : Acs w B A l) {i : Nat} (hi : i < l.length) : ∃ b o, A = some ⟨b, o, none⟩ ∧ Acs w B (some ⟨b, o + i * 6, none⟩) [l.getD i .zero] := by
  obtain ⟨b, o, Ab, cb, Tb, tl, tc, h1, h2, h3⟩ := h i hi
  refine ⟨b, o, h1, fun j hj => ?_⟩
  obtain rfl : j = 0 := by simp at hj; omega
  exact ⟨b, o + i * 6, Ab, cb, Tb, tl, tc, rfl, h2, by simpa using h3⟩
/-- two disks, all of both new since w0. -/
structure T19 (w0 w : World) (pa ma : Nat) (da : Dk) (pb mb : Nat) (db : Dk) : Prop where
  a : DiskAt w pa ma da
  b : DiskAt w pb mb db
  below : Below w0.heap.size w0 w
  la : w0.heap.size ≤ pa ∧ w0.heap.size ≤ ma ∧ w0.heap.size ≤ pb ∧ w0.heap.size ≤ mb
  ne : pa ≠ pb ∧ pa ≠ mb ∧ ma ≠ pb ∧ ma ≠ mb
theorem DiskAt.other {w w' : World} {p m p2 m2 : Nat} {d d2 : Dk} (h : DiskAt w p m d) (h2 : DiskAt w p2 m2 d2) (hne : p2 ≠ p ∧ p2 ≠ m ∧ m2 ≠ p ∧ m2 ≠ m) (hd : Dw w w' p m) : DiskAt w' p2 m2 d2 :=
  (h2.raw.bw hd.bw ⟨by simp; exact ⟨hne.1, hne.2.1⟩, by simp; exact ⟨hne.2.2.1, hne.2.2.2⟩, h.noBytes⟩).disk h2.ok
section
variable {w0 w w' : World} {pa ma pb mb : Nat} {da db d2 : Dk}
theorem T19.after (h : T19 w0 w pa ma da pb mb db) (hb : Below w.heap.size w w') : T19 w0 w' pa ma da pb mb db := ⟨h.a.below hb, h.b.below hb, h.below.trans (hb.mono h.below.size), h.la, h.ne⟩
theorem T19.stepA (h : T19 w0 w pa ma da pb mb db) (h2 : DiskAt w' pa ma d2) (hd : Dw w w' pa ma) : T19 w0 w' pa ma d2 pb mb db :=
  ⟨h2, h.a.other h.b ⟨h.ne.1.symm, h.ne.2.2.1.symm, h.ne.2.1.symm, h.ne.2.2.2.symm⟩ hd, below_dw h.below hd h.la.1 h.la.2.1, h.la, h.ne⟩
theorem T19.stepB (h : T19 w0 w pa ma da pb mb db) (h2 : DiskAt w' pb mb d2) (hd : Dw w w' pb mb) : T19 w0 w' pa ma da pb mb d2 :=
  ⟨h.b.other h.a ⟨h.ne.1, h.ne.2.1, h.ne.2.2.1, h.ne.2.2.2⟩ hd, h2, below_dw h.below hd h.la.2.2.1 h.la.2.2.2, h.la, h.ne⟩
end
end Go.Proofs.YtegekaocbalndaaGreatDoor
