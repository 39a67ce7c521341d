/- calls that came in are read. -/
import Derived.Test.YtkdkpnidiehdfaaDoorRow
import Derived.Test.YtkdkpnidiehdfaaDoorLg
import Derived.Deep.SlicePairs
set_option linter.unusedSimpArgs false
set_option linter.unusedVariables false
namespace Go.Proofs.YtkdkpnidiehdfaaDoor
open Go.ChangeShapes Go.WideShapes Go.ChangeAt Go.RowKit

theorem bytes_of_cell0 {H : Type} {enc : TypeId × Value → H} {W : World} {n : Nat} {V : Value} {d : DataW H} {p : List MemPlace} (h : DataW.trod enc Tryd.prog W 0 (fun _ => true) true n 22 [V] = some (d, p)) :
    ∃ (l : List UInt8) (a : Option Addr) (c : Nat), V = .slice a l.length c ∧ Bs W W.heap.size a l ∧ (a = none → l = []) := by
  rcases open_ints Tryd.underlying22 Tryd.underlying5 (by kernel_rfl) h with ⟨hcs, hx⟩ | ⟨x, l, c, zs, hcs, _, hl, hm, hz, hx, hcell, hwz⟩
  · simp at hcs
    subst hcs
    exact ⟨[], none, 0, rfl, Bs.nil _ _ _, fun _ => rfl⟩
  · simp at hcs
    subst hcs
    obtain ⟨l', h1, h2, h3⟩ := bytes_of_trod (enc := enc) (W := W) (a := some x) (len := l) (cap := c) ⟨n, by simpa [Value.cells] using h⟩
    subst h1
    exact ⟨l', _, _, rfl, h2, h3⟩
theorem u8_of_cell {H : Type} {enc : TypeId × Value → H} {W : World} {n : Nat} {V : Value} {d : DataW H} {p : List MemPlace} (h : DataW.trod enc Tryd.prog W 0 (fun _ => true) true n 5 [V] = some (d, p)) : ∃ c : UInt8, V = .int .u8 (c.toNat : Int) := by
  obtain ⟨z, hcs, _, hw⟩ := DataW.trod_int Tryd.underlying5 h
  have hb : 0 ≤ z ∧ z ≤ 255 := bounds_u8 hw
  refine ⟨z.toNat.toUInt8, ?_⟩
  have e : ((z.toNat.toUInt8).toNat : Int) = z := by
    simp only [Nat.toUInt8, UInt8.toNat_ofNat']
    omega
  rw [e]
  simpa using hcs
set_option maxRecDepth 100000 in
theorem acts_of_trod {H : Type} {enc : TypeId × Value → H} {W : World} {a : Option Addr} {len cap : Nat} {d : DataW H} {p : List MemPlace} (h : DataW.Trod enc Tryd.prog W 0 (fun _ => true) true 45 (.slice a len cap) d p) :
    ∃ cs : List (UInt8 × List UInt8), cs.length = len ∧ Cs1 W W.heap.size a cs := by
  obtain ⟨fuel, hf⟩ := h
  rcases Deep.open_slice_pairs Tryd.underlying45 Tryd.underlying48 (by kernel_rfl) rfl rfl (by kernel_rfl) (by kernel_rfl) hf with ⟨hcs, hx⟩ | ⟨x, l, c, m, n, V0, V1, D0, D1, P0, P1, hcs, _, hl, hm, hmm, hx, hel⟩
  · simp [Value.cells] at hcs
    obtain ⟨rfl, rfl, rfl⟩ := hcs
    exact ⟨[], rfl, fun i hi => by simp at hi⟩
  · simp [Value.cells] at hcs
    obtain ⟨rfl, rfl, rfl⟩ := hcs
    have hm' : m = cap := by simpa using hmm
    subst hm'
    have key : ∀ i, i < len → ∃ y : UInt8 × List UInt8 × Option Addr × Nat, W.cell? (x.add (i * 2)) = some (.int .u8 (y.1.toNat : Int)) ∧ W.cell? (x.add (i * 2 + 1)) = some (.slice y.2.2.1 y.2.1.length y.2.2.2) ∧ Bs W W.heap.size y.2.2.1 y.2.1 ∧ (y.2.2.1 = none → y.2.1 = []) := by
      intro i hi
      obtain ⟨h1, h2, h3, h4⟩ := hel i (by omega)
      obtain ⟨c, hc⟩ := u8_of_cell h3
      obtain ⟨l, a, cc, hV, h5, h6⟩ := bytes_of_cell0 h4
      exact ⟨(c, l, a, cc), by rw [h1, hc], by rw [h2, hV], h5, h6⟩
    obtain ⟨f, hf'⟩ := Deep.choose_lt key
    refine ⟨(List.range len).map fun i => ((f i).1, (f i).2.1), by simp, ?_⟩
    intro i hi
    have hi' : i < len := by simpa using hi
    obtain ⟨h1, h2, h3, h4⟩ := hf' i hi'
    obtain ⟨b, off, spot⟩ := x
    have h0 := (hf' 0 (by omega)).1
    have hspot : spot = none := by simpa [Addr.add] using World.cell?_spot h0
    subst hspot
    rw [addr_add] at h1 h2
    have e : ((List.range len).map fun i => ((f i).1, (f i).2.1)).getD i (0, []) = ((f i).1, (f i).2.1) := by rw [List.getD_eq_getElem?_getD, List.getElem?_map, List.getElem?_range hi']; rfl
    rw [e]
    exact ⟨b, off, _, _, rfl, World.block_lt_of_cell? _ _ h1, h1, by rw [Nat.add_assoc]; exact h2, h3, h4⟩
end Go.Proofs.YtkdkpnidiehdfaaDoor
