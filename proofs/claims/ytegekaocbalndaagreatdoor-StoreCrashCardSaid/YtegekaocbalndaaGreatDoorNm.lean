/- the laws' calls on a disk: plays. -/
import Derived.Test.YtegekaocbalndaaGreatDoorNl
set_option linter.unusedSimpArgs false
set_option linter.unusedVariables false
namespace Go.Proofs.YtegekaocbalndaaGreatDoor
open Go.RowKit

theorem Dw.low {w w' : World} {p m B : Nat} (h : Dw w w' p m) (hp : B ≤ p) (hm : B ≤ m) (hB : B ≤ w.heap.size) : Below B w w' :=
  ⟨h.os, h.tape, h.output, h.size, fun k hk => h.block k (by omega) (by omega) (by omega)⟩
theorem DiskAt.key_len {w : World} {p m : Nat} {d : Dk} (h : DiskAt w p m d) : ∀ q ∈ d.fs, q.1.length ≤ 9223372036854775807 := by
  obtain ⟨vs, hm, ha⟩ := h.files
  obtain ⟨es, he, hk⟩ := World.ownsMap.keysOf hm
  have hv : ∀ q ∈ vs, q.1.length ≤ 9223372036854775807 := fun q hq => by
    injection he with he
    have h1 : (Lit.string q.1, DataW.held q.2) ∈ es := by rw [← he]; unfold kd; exact List.mem_map.2 ⟨q, hq, rfl⟩
    obtain ⟨v, hv⟩ := hk _ h1
    obtain ⟨x, _, hx, hl⟩ := Maps.keyOf_str Tryz.underlying9 hv
    injection hx with hx
    rw [hx]
    exact hl
  have hn := ha.names_eq
  intro q hq
  have h1 : q.1 ∈ names d.fs := List.mem_map.2 ⟨q, hq, rfl⟩
  rw [← hn] at h1
  obtain ⟨r, hr, he⟩ := List.mem_map.1 h1
  rw [← he]
  exact hv r hr
def PlayP (w : World) (p m : Nat) (d : Dk) (l : List Ac) (e : Ending) (w' : World) : Prop :=
  ((e = .returned (.bool true) ∧ l.all okA = true ∧ DiskAt w' p m (d.plays l)) ∨ (e = .returned (.bool false) ∧ l.all okA = false)) ∧ Dw w w' p m
end Go.Proofs.YtegekaocbalndaaGreatDoor
