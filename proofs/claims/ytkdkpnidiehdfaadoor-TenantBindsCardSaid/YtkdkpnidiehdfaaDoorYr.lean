/-
  From a walk of a law to its row and its card: what the laws of tenants share (out of XRow).
-/
import Derived.Test.YtkdkpnidiehdfaaDoorRows
import Derived.Test.YtkdkpnidiehdfaaDoorTie
import Derived.Test.YtkdkpnidiehdfaaDoorCards
import Derived.Test.YtkdkpnidiehdfaaDoorLa
import Derived.WalkKit
import Derived.ProofKit
import Derived.OpenShut
import Derived.ShutString
import Derived.ChangeOld
import Derived.LaidHandle
import Derived.LaidMore
import Derived.MakeChecks
import Derived.Lib.LaidTab
import Derived.Deep.Slices
import Derived.SizedLaws
set_option linter.unusedSimpArgs false
set_option linter.unusedVariables false
namespace Go.Proofs.YtkdkpnidiehdfaaDoor
open Go.ChangeShapes Go.WideShapes Go.ChangeAt Go.RowKit

theorem own : ownKnob Tryd.prog.godebug = none := by kernel_rfl
theorem laidOut : laidOutB Tryd.prog = true := by kernel_rfl
abbrev laid1 : List (String × DataW Unit) := [("assize/digest.k", Rows.laid_assize_digest_k)]
theorem door_met (os : Os) (args : Array Value) : laidMetH Tryd.prog laid1 ((World.doorLaid Tryd.prog 14 os).forCall (fun _ _ => 0) ⟨#[], args, []⟩).memory :=
  laidMetH_of_parts3 (fuel := 8) (laidMet_of_run' 8 (by kernel_rfl) (by kernel_rfl)) (by kernel_rfl) (by kernel_rfl)
theorem kmem_of_laid {W : World} (h : laidMetH Tryd.prog laid1 W) : KMem W := by
  rw [MakeChecks.laidMetH_plain _ _ _ (by kernel_rfl)] at h
  have e0 : (Rows.laid_assize_digest_k : DataW Unit) = Lib.tabData .u32 (kTab.map fun x => (x.toNat : Int)) := by kernel_rfl
  unfold laid1 at h
  rw [e0] at h
  have hT := Lib.tabIs_of_head (P := Tryd.prog) (name := "assize/digest.k") (k := .u32) (zs := kTab.map fun x => (x.toNat : Int)) (rest := []) (g := 0) (t := 101) (e := 30) (n := 64)
    (by kernel_rfl) (by kernel_rfl) Tryd.underlying101 Tryd.underlying30 (by kernel_rfl) (by kernel_rfl) h
  intro t ht
  have hlen : kTab.length = 64 := by decide
  have := hT.cell (g := 0) (by kernel_rfl) t (by simp [hlen]; exact ht)
  rw [this]
  simp [List.getD_eq_getElem?_getD, hlen, ht]

/-- a slice of bytes that came in. -/
theorem bytes_of_trod {H : Type} {enc : TypeId × Value → H} {W : World} {a : Option Addr} {len cap : Nat} {d : DataW H} {p : List MemPlace} (h : DataW.Trod enc Tryd.prog W 0 (fun _ => true) true 22 (.slice a len cap) d p) :
    ∃ l : List UInt8, l.length = len ∧ Bs W W.heap.size a l ∧ (a = none → l = []) := by
  obtain ⟨fuel, hf⟩ := h
  rcases open_ints Tryd.underlying22 Tryd.underlying5 (by kernel_rfl) hf with ⟨hcs, _⟩ | ⟨x, l, c, zs, hcs, _, hl, hm, hz, _, hcell, hwz⟩
  · simp [Value.cells] at hcs
    obtain ⟨rfl, rfl, rfl⟩ := hcs
    exact ⟨[], rfl, Bs.nil _ _ _, fun _ => rfl⟩
  · simp [Value.cells] at hcs
    obtain ⟨rfl, rfl, rfl⟩ := hcs
    have hz' : zs.length = cap := by simpa using hz
    have key : ∀ i, i < len → W.cell? (x.add i) = some (.int .u8 (((zs.getD i 0).toNat.toUInt8).toNat : Int)) := by
      intro i hi
      rw [hcell i (by omega)]
      have hw := hwz (zs.getD i 0) (by
        rw [List.getD_eq_getElem?_getD, List.getElem?_eq_getElem (by omega)]; simp)
      have hb : 0 ≤ zs.getD i 0 ∧ zs.getD i 0 ≤ 255 := bounds_u8 hw
      have e : (((zs.getD i 0).toNat.toUInt8).toNat : Int) = zs.getD i 0 := by
        simp only [Nat.toUInt8, UInt8.toNat_ofNat']
        omega
      rw [e]
    refine ⟨(List.range len).map fun i => (zs.getD i 0).toNat.toUInt8, by simp, ?_, fun h => by cases h⟩
    intro j hj
    have hj' : j < len := by simpa using hj
    obtain ⟨b, off, spot⟩ := x
    have hc := key j hj'
    have hc0 := key 0 (by omega)
    have hspot : spot = none := by simpa [Addr.add] using World.cell?_spot hc0
    subst hspot
    have hadd : (⟨b, off, none⟩ : Addr).add j = ⟨b, off + j, none⟩ := by unfold Addr.add; split <;> simp_all
    rw [hadd] at hc
    refine ⟨b, off, rfl, World.block_lt_of_cell? _ _ hc, ?_⟩
    rw [hc]
    simp [List.getD_eq_getElem?_getD, hj']
end Go.Proofs.YtkdkpnidiehdfaaDoor
