/- a disk's calls that came in -/
import Derived.Test.YtjbpgjfnccmdaaaRo
import Derived.Test.YtjbpgjfnccmdaaaRoB
import Derived.Deep.Strs
import Derived.Test.YtjbpgjfnccmdaaaMg2
set_option linter.unusedSimpArgs false
set_option linter.unusedVariables false
namespace Go.Proofs.Ytjbpgjfnccmdaaa
open Go.ChangeShapes Go.WideShapes Go.ChangeAt Go.RowKit

theorem trod_struct6 {H : Type} {enc : TypeId × Value → H} {P : Program} {w : World} {base : Nat} {spare : Nat → Bool} {held : Bool} {t : TypeId} {f0 f1 f2 f3 f4 f5 : Field} {fuel : Nat} {cs : List Value} {x : DataW H × List MemPlace} (ht : P.underlying t = some (.struct #[f0, f1, f2, f3, f4, f5])) (h : DataW.trod enc P w base spare held fuel t cs = some x) :
    ∃ y0 y1 y2 y3 y4 y5 n, cs.length = P.cellsOf t ∧ DataW.trod enc P w base spare held n f0.type ((cs.drop f0.offset).take (P.cellsOf f0.type)) = some y0 ∧
      DataW.trod enc P w base spare held n f1.type ((cs.drop f1.offset).take (P.cellsOf f1.type)) = some y1 ∧ DataW.trod enc P w base spare held n f2.type ((cs.drop f2.offset).take (P.cellsOf f2.type)) = some y2 ∧
      DataW.trod enc P w base spare held n f3.type ((cs.drop f3.offset).take (P.cellsOf f3.type)) = some y3 ∧ DataW.trod enc P w base spare held n f4.type ((cs.drop f4.offset).take (P.cellsOf f4.type)) = some y4 ∧
      DataW.trod enc P w base spare held n f5.type ((cs.drop f5.offset).take (P.cellsOf f5.type)) = some y5 := by
  obtain ⟨xs, n, _, rfl, hl, hlen, hf⟩ := DataW.trod_struct ht h
  match xs, hlen with
  | [y0, y1, y2, y3, y4, y5], _ => exact ⟨y0, y1, y2, y3, y4, y5, n, hl, by simpa using hf 0 f0 rfl, by simpa using hf 1 f1 rfl, by simpa using hf 2 f2 rfl, by simpa using hf 3 f3 rfl, by simpa using hf 4 f4 rfl, by simpa using hf 5 f5 rfl⟩
theorem bytes_of_cell2 {H : Type} {enc : TypeId × Value → H} {W : World} {n : Nat} {V : Value} {d : DataW H × List MemPlace} (h : DataW.trod enc Try.prog W 0 (fun _ => true) true n 31 [V] = some d) :
    ∃ (l : List UInt8) (a : Option Addr) (c : Nat), V = .slice a l.length c ∧ Bs W W.heap.size a l ∧ (a = none → l = []) := by
  obtain ⟨d, p⟩ := d
  rcases open_ints Try.underlying31 Try.underlying5 (by kernel_rfl) h with ⟨hcs, hx⟩ | ⟨x, l, c, zs, hcs, _, hl, hm, hz, hx, hcell, hwz⟩
  · simp at hcs
    subst hcs
    exact ⟨[], none, 0, rfl, Bs.nil _ _ _, fun _ => rfl⟩
  · simp at hcs
    subst hcs
    obtain ⟨l', h1, h2, h3⟩ := bytes_of_trod (enc := enc) (W := W) (a := some x) (len := l) (cap := c) ⟨n, by simpa [Value.cells] using h⟩
    subst h1
    exact ⟨l', _, _, rfl, h2, h3⟩
theorem ints_cell {H : Type} {enc : TypeId × Value → H} {W : World} {n : Nat} {V : Value} {d : DataW H × List MemPlace} (h : DataW.trod enc Try.prog W 0 (fun _ => true) true n 56 [V] = some d) : ∃ a l c, V = .slice a l c := by
  rcases Deep.open_slice Try.underlying56 h with ⟨hcs, hx⟩ | ⟨x, l, c, m, n, D, Pl, hcs, _⟩
  · simp at hcs
    exact ⟨_, _, _, hcs⟩
  · simp at hcs
    exact ⟨_, _, _, hcs⟩
theorem str_of (s : ByteArray) : s = str s.data.toList := by
  obtain ⟨d⟩ := s
  rfl
set_option maxRecDepth 100000 in
theorem ac_of_cells {H : Type} {enc : TypeId × Value → H} {W : World} {n : Nat} {cs : List Value} {x : DataW H × List MemPlace} (h : DataW.trod enc Try.prog W 0 (fun _ => true) true n 98 cs = some x) :
    ∃ (e : Ac) (A : Option Addr) (c : Nat) (T : Option Addr) (tl tc : Nat), cs = [.int .i64 e.kind, .string (str e.name), .string (str e.too), .int .i64 e.n, .slice A e.b.length c, .slice T tl tc] ∧ Bs W W.heap.size A e.b ∧ (A = none → e.b = []) ∧ e.name.length ≤ 9223372036854775807 ∧ e.too.length ≤ 9223372036854775807 ∧ -9223372036854775808 ≤ e.n ∧ e.n ≤ 9223372036854775807 := by
  obtain ⟨y0, y1, y2, y3, y4, y5, m, hl, h0, h1, h2, h3, h4, h5⟩ := trod_struct6 Try.underlying98 h
  have hc : Try.prog.cellsOf 98 = 6 := by kernel_rfl
  have hci : Try.prog.cellsOf 3 = 1 := by kernel_rfl
  have hcs : Try.prog.cellsOf 9 = 1 := by kernel_rfl
  have hcb : Try.prog.cellsOf 31 = 1 := by kernel_rfl
  have hct : Try.prog.cellsOf 56 = 1 := by kernel_rfl
  rw [hc] at hl
  match cs, hl with
  | [a, b, c, d, f, g], _ =>
    simp only [hci, hcs, hcb, hct] at h0 h1 h2 h3 h4 h5
    obtain ⟨z0, e0, _⟩ := DataW.trod_int Try.underlying3 h0
    obtain ⟨s1, e1, _, w1⟩ := DataW.trod_string Try.underlying9 h1
    obtain ⟨s2, e2, _, w2⟩ := DataW.trod_string Try.underlying9 h2
    obtain ⟨z3, e3, _, w3⟩ := DataW.trod_int Try.underlying3 h3
    have h4' : DataW.trod enc Try.prog W 0 (fun _ => true) true m 31 [f] = some y4 := h4
    have h5' : DataW.trod enc Try.prog W 0 (fun _ => true) true m 56 [g] = some y5 := h5
    obtain ⟨l, A, cc, e4, hb, hA0⟩ := bytes_of_cell2 h4'
    obtain ⟨T, tl, tc, e5⟩ := ints_cell h5'
    simp at e0 e1 e2 e3
    subst e0 e1 e2 e3 e4 e5
    have hb3 := bounds_i64 w3
    refine ⟨⟨z0, s1.data.toList, s2.data.toList, z3, l⟩, A, cc, T, tl, tc, ?_, hb, hA0, ?_, ?_, hb3.1, hb3.2⟩
    · rw [← str_of, ← str_of]
    · rw [Array.length_toList]; exact w1
    · rw [Array.length_toList]; exact w2
set_option maxRecDepth 100000 in
theorem acs_of_trod {H : Type} {enc : TypeId × Value → H} {W : World} {a : Option Addr} {len cap : Nat} {d : DataW H} {p : List MemPlace} (h : DataW.Trod enc Try.prog W 0 (fun _ => true) true 63 (.slice a len cap) d p) :
    ∃ l : List Ac, l.length = len ∧ Acs W W.heap.size a l ∧ AcW l ∧ l.length ≤ cap := by
  obtain ⟨fuel, hf⟩ := h
  have hc22 : Try.prog.cellsOf 98 = 6 := by kernel_rfl
  rcases Deep.open_slice Try.underlying63 hf with ⟨hcs, hx⟩ | ⟨x, l, c, m, n, D, Pl, hcs, _, hl, hm, hmm, hx, hel⟩
  · simp [Value.cells] at hcs
    obtain ⟨rfl, rfl, rfl⟩ := hcs
    exact ⟨[], rfl, fun i hi => by simp at hi, fun a ha => by simp at ha, by simp⟩
  · simp [Value.cells] at hcs
    obtain ⟨rfl, rfl, rfl⟩ := hcs
    have hm' : m = cap := by simpa using hmm
    subst hm'
    have key : ∀ i, i < len → ∃ y : Ac × Option Addr × Nat × Option Addr × Nat × Nat, (W.cell? ((x.add (i * 6)).add 0) = some (.int .i64 y.1.kind) ∧ W.cell? ((x.add (i * 6)).add 1) = some (.string (str y.1.name)) ∧ W.cell? ((x.add (i * 6)).add 2) = some (.string (str y.1.too)) ∧ W.cell? ((x.add (i * 6)).add 3) = some (.int .i64 y.1.n) ∧ W.cell? ((x.add (i * 6)).add 4) = some (.slice y.2.1 y.1.b.length y.2.2.1) ∧ W.cell? ((x.add (i * 6)).add 5) = some (.slice y.2.2.2.1 y.2.2.2.2.1 y.2.2.2.2.2)) ∧ Bs W W.heap.size y.2.1 y.1.b ∧ (y.2.1 = none → y.1.b = []) ∧ (y.1.name.length ≤ 9223372036854775807 ∧ y.1.too.length ≤ 9223372036854775807 ∧ -9223372036854775808 ≤ y.1.n ∧ y.1.n ≤ 9223372036854775807) := by
      intro i hi
      obtain ⟨cs', h1, h2⟩ := hel i (by omega)
      rw [hc22] at h1
      obtain ⟨e, A, c, T, tl, tc, rfl, hb, hA0, hw⟩ := ac_of_cells h2
      obtain ⟨_, _, h3⟩ := World.cells?_some h1
      exact ⟨(e, A, c, T, tl, tc), ⟨h3 0 (by omega), h3 1 (by omega), h3 2 (by omega), h3 3 (by omega), h3 4 (by omega), h3 5 (by omega)⟩, hb, hA0, hw⟩
    have hinh : Inhabited (Ac × Option Addr × Nat × Option Addr × Nat × Nat) := ⟨(Ac.zero, none, 0, none, 0, 0)⟩
    obtain ⟨f, hf'⟩ := Deep.choose_lt key
    refine ⟨(List.range len).map fun i => (f i).1, by simp, ?_, ?_, by simpa using hl⟩
    · intro i hi
      have hi' : i < len := by simpa using hi
      obtain ⟨⟨h1, h2, h3, h4, h5, h6⟩, h7, h8, _⟩ := hf' i hi'
      obtain ⟨b, off, spot⟩ := x
      have hspot : spot = none := by have h0 := (hf' 0 (by omega)).1.1; simpa [Addr.add] using World.cell?_spot h0
      subst hspot
      rw [addr_add, addr_add] at h1 h2 h3 h4 h5 h6
      have e : ((List.range len).map fun i => (f i).1).getD i .zero = (f i).1 := by rw [List.getD_eq_getElem?_getD, List.getElem?_map, List.getElem?_range hi']; rfl
      rw [e]
      exact ⟨b, off, _, _, _, _, _, rfl, World.block_lt_of_cell? _ _ h1, h1, h2, h3, h4, h5, h6, h7, h8⟩
    · intro a ha
      obtain ⟨i, hi, rfl⟩ := List.mem_map.1 ha
      exact (hf' i (by simpa using hi)).2.2.2
end Go.Proofs.Ytjbpgjfnccmdaaa
