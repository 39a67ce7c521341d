/- calls of a table that came in are read. -/
import Derived.Test.YtkdkpnidiehdfaaDoorYr
import Derived.Test.YtkdkpnidiehdfaaDoorYa
import Derived.Deep.Strs
import Derived.Deep.SlicePairs
set_option linter.unusedSimpArgs false
set_option linter.unusedVariables false
namespace Go.Proofs.YtkdkpnidiehdfaaDoor
open Go.ChangeShapes Go.WideShapes Go.ChangeAt Go.RowKit

theorem addr_addT (b off k : Nat) : (⟨b, off, none⟩ : Addr).add k = ⟨b, off + k, none⟩ := by unfold Addr.add; split <;> simp_all
theorem bytes_of_cellT {H : Type} {enc : TypeId × Value → H} {W : World} {n : Nat} {V : Value} {d : DataW H × List MemPlace} (h : DataW.trod enc Tryd.prog W 0 (fun _ => true) true n 22 [V] = some d) :
    ∃ (l : List UInt8) (a : Option Addr) (c : Nat), V = .slice a l.length c ∧ Bs W W.heap.size a l ∧ (a = none → l = []) := by
  obtain ⟨d, p⟩ := d
  rcases open_ints Tryd.underlying22 Tryd.underlying5 (by kernel_rfl) h with ⟨hcs, hx⟩ | ⟨x, l, c, zs, hcs, _, hl, hm, hz, hx, hcell, hwz⟩
  · simp at hcs
    subst hcs
    exact ⟨[], none, 0, rfl, Bs.nil _ _ _, fun _ => rfl⟩
  · simp at hcs
    subst hcs
    obtain ⟨l', h1, h2, h3⟩ := bytes_of_trod (enc := enc) (W := W) (a := some x) (len := l) (cap := c) ⟨n, by simpa [Value.cells] using h⟩
    subst h1
    exact ⟨l', _, _, rfl, h2, h3⟩
set_option maxRecDepth 100000 in
theorem ca_of_cells {H : Type} {enc : TypeId × Value → H} {W : World} {n : Nat} {cs : List Value} {x : DataW H × List MemPlace} (h : DataW.trod enc Tryd.prog W 0 (fun _ => true) true n 70 cs = some x) :
    ∃ (e : Ca) (A : Option Addr) (c : Nat), cs = [.int .i64 e.kind, .int .i64 e.conn, .slice A e.tok.length c] ∧ Bs W W.heap.size A e.tok ∧ (A = none → e.tok = []) ∧ inI e.conn := by
  obtain ⟨y0, y1, y2, m, _, hl, h0, h1, h2⟩ := Deep.trod_struct3 Tryd.underlying70 h
  have hc : Tryd.prog.cellsOf 70 = 3 := by kernel_rfl
  have hci : Tryd.prog.cellsOf 3 = 1 := by kernel_rfl
  have hcb : Tryd.prog.cellsOf 22 = 1 := by kernel_rfl
  rw [hc] at hl
  match cs, hl with
  | [a, b, f], _ =>
    simp only [hci, hcb] at h0 h1 h2
    obtain ⟨z0, e0, _⟩ := DataW.trod_int Tryd.underlying3 h0
    obtain ⟨z1, e1, _, w1⟩ := DataW.trod_int Tryd.underlying3 h1
    have h2' : DataW.trod enc Tryd.prog W 0 (fun _ => true) true m 22 [f] = some y2 := h2
    obtain ⟨l, A, cc, e2, hb, hA0⟩ := bytes_of_cellT h2'
    simp at e0 e1
    subst e0 e1 e2
    exact ⟨⟨z0, z1, l⟩, A, cc, rfl, hb, hA0, bounds_i64 w1⟩
set_option maxRecDepth 100000 in
theorem cas_of_trod {H : Type} {enc : TypeId × Value → H} {W : World} {a : Option Addr} {len cap : Nat} {d : DataW H} {p : List MemPlace} (h : DataW.Trod enc Tryd.prog W 0 (fun _ => true) true 63 (.slice a len cap) d p) :
    ∃ l : List Ca, l.length = len ∧ Cas W W.heap.size a l ∧ CaW l := by
  obtain ⟨fuel, hf⟩ := h
  have hc22 : Tryd.prog.cellsOf 70 = 3 := by kernel_rfl
  rcases Deep.open_slice Tryd.underlying63 hf with ⟨hcs, hx⟩ | ⟨x, l, c, m, n, D, Pl, hcs, _, hl, hm, hmm, hx, hel⟩
  · simp [Value.cells] at hcs
    obtain ⟨rfl, rfl, rfl⟩ := hcs
    exact ⟨[], rfl, fun i hi => by simp at hi, fun a ha => by simp at ha⟩
  · simp [Value.cells] at hcs
    obtain ⟨rfl, rfl, rfl⟩ := hcs
    have hm' : m = cap := by simpa using hmm
    subst hm'
    have key : ∀ i, i < len → ∃ y : Ca × Option Addr × Nat, (W.cell? ((x.add (i * 3)).add 0) = some (.int .i64 y.1.kind) ∧ W.cell? ((x.add (i * 3)).add 1) = some (.int .i64 y.1.conn) ∧ W.cell? ((x.add (i * 3)).add 2) = some (.slice y.2.1 y.1.tok.length y.2.2)) ∧ Bs W W.heap.size y.2.1 y.1.tok ∧ (y.2.1 = none → y.1.tok = []) ∧ inI y.1.conn := by
      intro i hi
      obtain ⟨cs', h1, h2⟩ := hel i (by omega)
      rw [hc22] at h1
      obtain ⟨e, A, c, rfl, hb, hA0, hw⟩ := ca_of_cells h2
      obtain ⟨_, _, h3⟩ := World.cells?_some h1
      exact ⟨(e, A, c), ⟨h3 0 (by omega), h3 1 (by omega), h3 2 (by omega)⟩, hb, hA0, hw⟩
    have hinh : Inhabited (Ca × Option Addr × Nat) := ⟨(ca0, none, 0)⟩
    obtain ⟨f, hf'⟩ := Deep.choose_lt key
    refine ⟨(List.range len).map fun i => (f i).1, by simp, ?_, ?_⟩
    · intro i hi
      have hi' : i < len := by simpa using hi
      obtain ⟨⟨h1, h2, h3⟩, h7, h8, _⟩ := hf' i hi'
      obtain ⟨b, off, spot⟩ := x
      have hspot : spot = none := by have h0 := (hf' 0 (by omega)).1.1; simpa [Addr.add] using World.cell?_spot h0
      subst hspot
      rw [addr_addT, addr_addT] at h1 h2 h3
      have e : ((List.range len).map fun i => (f i).1).getD i ca0 = (f i).1 := by rw [List.getD_eq_getElem?_getD, List.getElem?_map, List.getElem?_range hi']; rfl
      rw [e]
      exact ⟨b, off, _, _, rfl, World.block_lt_of_cell? _ _ h1, h1, h2, h3, h7, h8⟩
    · intro a ha
      obtain ⟨i, hi, rfl⟩ := List.mem_map.1 ha
      exact (hf' i (by simpa using hi)).2.2.2
end Go.Proofs.YtkdkpnidiehdfaaDoor
