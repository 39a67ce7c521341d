/- several texts in one: calls of a table that came in are read., tenants that came in are read. -/
import Derived.Test.YtkdkpnidiehdfaaDoorYr
import Derived.Test.YtkdkpnidiehdfaaDoorMg4
import Derived.Deep.Strs
import Derived.Deep.SlicePairs
section
set_option linter.unusedSimpArgs false
set_option linter.unusedVariables false
namespace Go.Proofs.YtkdkpnidiehdfaaDoor
open Go.ChangeShapes Go.WideShapes Go.ChangeAt Go.RowKit

theorem addr_addT (b off k : Nat) : (⟨b, off, none⟩ : Addr).add k = ⟨b, off + k, none⟩ := by unfold Addr.add; split <;> simp_all
theorem bytes_of_cellT {H : Type} {enc : TypeId × Value → H} {W : World} {n : Nat} {V : Value} {d : DataW H × List MemPlace} (h : DataW.trod enc Tryd.prog W 0 (fun _ => true) true n 22 [V] = some d) :
    ∃ (l : List UInt8) (a : Option Addr) (c : Nat), V = .slice a l.length c ∧ Bs W W.heap.size a l ∧ (a = none → l = []) := by
  obtain ⟨d, p⟩ := d
  rcases open_ints Tryd.underlying22 Tryd.underlying5 (by kernel_rfl) h with ⟨hcs, hx⟩ | ⟨x, l, c, zs, hcs, _, hl, hm, hz, hx, hcell, hwz⟩
  · simp at hcs
    subst hcs
    exact ⟨[], none, 0, rfl, Bs.nil _ _ _, fun _ => rfl⟩
  · simp at hcs
    subst hcs
    obtain ⟨l', h1, h2, h3⟩ := bytes_of_trod (enc := enc) (W := W) (a := some x) (len := l) (cap := c) ⟨n, by simpa [Value.cells] using h⟩
    subst h1
    exact ⟨l', _, _, rfl, h2, h3⟩
set_option maxRecDepth 100000 in
theorem ca_of_cells {H : Type} {enc : TypeId × Value → H} {W : World} {n : Nat} {cs : List Value} {x : DataW H × List MemPlace} (h : DataW.trod enc Tryd.prog W 0 (fun _ => true) true n 70 cs = some x) :
    ∃ (e : Ca) (A : Option Addr) (c : Nat), cs = [.int .i64 e.kind, .int .i64 e.conn, .slice A e.tok.length c] ∧ Bs W W.heap.size A e.tok ∧ (A = none → e.tok = []) ∧ inI e.conn := by
  obtain ⟨y0, y1, y2, m, _, hl, h0, h1, h2⟩ := Deep.trod_struct3 Tryd.underlying70 h
  have hc : Tryd.prog.cellsOf 70 = 3 := by kernel_rfl
  have hci : Tryd.prog.cellsOf 3 = 1 := by kernel_rfl
  have hcb : Tryd.prog.cellsOf 22 = 1 := by kernel_rfl
  rw [hc] at hl
  match cs, hl with
  | [a, b, f], _ =>
    simp only [hci, hcb] at h0 h1 h2
    obtain ⟨z0, e0, _⟩ := DataW.trod_int Tryd.underlying3 h0
    obtain ⟨z1, e1, _, w1⟩ := DataW.trod_int Tryd.underlying3 h1
    have h2' : DataW.trod enc Tryd.prog W 0 (fun _ => true) true m 22 [f] = some y2 := h2
    obtain ⟨l, A, cc, e2, hb, hA0⟩ := bytes_of_cellT h2'
    simp at e0 e1
    subst e0 e1 e2
    exact ⟨⟨z0, z1, l⟩, A, cc, rfl, hb, hA0, bounds_i64 w1⟩
set_option maxRecDepth 100000 in
theorem cas_of_trod {H : Type} {enc : TypeId × Value → H} {W : World} {a : Option Addr} {len cap : Nat} {d : DataW H} {p : List MemPlace} (h : DataW.Trod enc Tryd.prog W 0 (fun _ => true) true 63 (.slice a len cap) d p) :
    ∃ l : List Ca, l.length = len ∧ Cas W W.heap.size a l ∧ CaW l := by
  obtain ⟨fuel, hf⟩ := h
  have hc22 : Tryd.prog.cellsOf 70 = 3 := by kernel_rfl
  rcases Deep.open_slice Tryd.underlying63 hf with ⟨hcs, hx⟩ | ⟨x, l, c, m, n, D, Pl, hcs, _, hl, hm, hmm, hx, hel⟩
  · simp [Value.cells] at hcs
    obtain ⟨rfl, rfl, rfl⟩ := hcs
    exact ⟨[], rfl, fun i hi => by simp at hi, fun a ha => by simp at ha⟩
  · simp [Value.cells] at hcs
    obtain ⟨rfl, rfl, rfl⟩ := hcs
    have hm' : m = cap := by simpa using hmm
    subst hm'
    have key : ∀ i, i < len → ∃ y : Ca × Option Addr × Nat, (W.cell? ((x.add (i * 3)).add 0) = some (.int .i64 y.1.kind) ∧ W.cell? ((x.add (i * 3)).add 1) = some (.int .i64 y.1.conn) ∧ W.cell? ((x.add (i * 3)).add 2) = some (.slice y.2.1 y.1.tok.length y.2.2)) ∧ Bs W W.heap.size y.2.1 y.1.tok ∧ (y.2.1 = none → y.1.tok = []) ∧ inI y.1.conn := by
      intro i hi
      obtain ⟨cs', h1, h2⟩ := hel i (by omega)
      rw [hc22] at h1
      obtain ⟨e, A, c, rfl, hb, hA0, hw⟩ := ca_of_cells h2
      obtain ⟨_, _, h3⟩ := World.cells?_some h1
      exact ⟨(e, A, c), ⟨h3 0 (by omega), h3 1 (by omega), h3 2 (by omega)⟩, hb, hA0, hw⟩
    have hinh : Inhabited (Ca × Option Addr × Nat) := ⟨(ca0, none, 0)⟩
    obtain ⟨f, hf'⟩ := Deep.choose_lt key
    refine ⟨(List.range len).map fun i => (f i).1, by simp, ?_, ?_⟩
    · intro i hi
      have hi' : i < len := by simpa using hi
      obtain ⟨⟨h1, h2, h3⟩, h7, h8, _⟩ := hf' i hi'
      obtain ⟨b, off, spot⟩ := x
      have hspot : spot = none := by have h0 := (hf' 0 (by omega)).1.1; simpa [Addr.add] using World.cell?_spot h0
      subst hspot
      rw [addr_addT, addr_addT] at h1 h2 h3
      have e : ((List.range len).map fun i => (f i).1).getD i ca0 = (f i).1 := by rw [List.getD_eq_getElem?_getD, List.getElem?_map, List.getElem?_range hi']; rfl
      rw [e]
      exact ⟨b, off, _, _, rfl, World.block_lt_of_cell? _ _ h1, h1, h2, h3, h7, h8⟩
    · intro a ha
      obtain ⟨i, hi, rfl⟩ := List.mem_map.1 ha
      exact (hf' i (by simpa using hi)).2.2.2
end Go.Proofs.YtkdkpnidiehdfaaDoor
end

section
set_option linter.unusedSimpArgs false
set_option linter.unusedVariables false
namespace Go.Proofs.YtkdkpnidiehdfaaDoor
open Go.ChangeShapes Go.WideShapes Go.ChangeAt Go.RowKit

theorem trod_struct5 {H : Type} {enc : TypeId × Value → H} {P : Program} {w : World} {base : Nat} {spare : Nat → Bool} {held : Bool} {t : TypeId} {f0 f1 f2 f3 f4 : Field} {fuel : Nat} {cs : List Value} {x : DataW H × List MemPlace} (ht : P.underlying t = some (.struct #[f0, f1, f2, f3, f4])) (h : DataW.trod enc P w base spare held fuel t cs = some x) :
    ∃ y0 y1 y2 y3 y4 n, cs.length = P.cellsOf t ∧ DataW.trod enc P w base spare held n f0.type ((cs.drop f0.offset).take (P.cellsOf f0.type)) = some y0 ∧
      DataW.trod enc P w base spare held n f1.type ((cs.drop f1.offset).take (P.cellsOf f1.type)) = some y1 ∧ DataW.trod enc P w base spare held n f2.type ((cs.drop f2.offset).take (P.cellsOf f2.type)) = some y2 ∧
      DataW.trod enc P w base spare held n f3.type ((cs.drop f3.offset).take (P.cellsOf f3.type)) = some y3 ∧ DataW.trod enc P w base spare held n f4.type ((cs.drop f4.offset).take (P.cellsOf f4.type)) = some y4 := by
  obtain ⟨xs, n, _, rfl, hl, hlen, hf⟩ := DataW.trod_struct ht h
  match xs, hlen with
  | [y0, y1, y2, y3, y4], _ => exact ⟨y0, y1, y2, y3, y4, n, hl, by simpa using hf 0 f0 rfl, by simpa using hf 1 f1 rfl, by simpa using hf 2 f2 rfl, by simpa using hf 3 f3 rfl, by simpa using hf 4 f4 rfl⟩
set_option maxRecDepth 100000 in
theorem dig_of_cells {H : Type} {enc : TypeId × Value → H} {W : World} {n : Nat} {cs : List Value} {x : DataW H × List MemPlace} (hsz : cs.length = 32) (h : DataW.trod enc Tryd.prog W 0 (fun _ => true) true n 25 cs = some x) :
    ∃ l : List UInt8, l.length = 32 ∧ cs = bcells l := by
  obtain ⟨d, p⟩ := x
  obtain ⟨xs, m, _, _, hl, hxl, hx⟩ := DataW.trod_array Tryd.underlying25 h
  have he : Tryd.prog.cellsOf 5 = 1 := by kernel_rfl
  have key : ∀ i, i < 32 → ∃ c : UInt8, cs[i]? = some (.int .u8 (c.toNat : Int)) := by
    intro i hi
    have h1 := hx i hi
    rw [List.getElem?_eq_getElem (by omega), he] at h1
    obtain ⟨n, h2, _, hw⟩ := DataW.trod_int Tryd.underlying5 h1
    have h3 : cs[i]? = some (.int .u8 n) := by
      have := congrArg (·[0]?) h2
      simpa [Value.cells, List.getElem?_take, List.getElem?_drop] using this
    have hb : 0 ≤ n ∧ n ≤ 255 := bounds_u8 hw
    refine ⟨n.toNat.toUInt8, ?_⟩
    rw [h3]
    have e : ((n.toNat.toUInt8).toNat : Int) = n := by
      simp only [Nat.toUInt8, UInt8.toNat_ofNat']; omega
    rw [e]
  obtain ⟨f, hf⟩ := Deep.choose_lt key
  refine ⟨(List.range 32).map f, by simp, ?_⟩
  apply List.ext_getElem?
  intro i
  by_cases hi : i < 32
  · rw [hf i hi]; simp [bcells, hi]
  · rw [List.getElem?_eq_none (by omega), List.getElem?_eq_none (by simp [bcells]; omega)]
theorem str_ofT (s : ByteArray) : s = str s.data.toList := by
  obtain ⟨d⟩ := s
  rfl
theorem split36 (cs : List Value) (h : cs.length = 36) : cs = (cs.drop 0).take 1 ++ ((cs.drop 1).take 32 ++ ((cs.drop 33).take 1 ++ ((cs.drop 34).take 1 ++ (cs.drop 35).take 1))) := by
  have e5 : (cs.drop 35).take 1 = cs.drop 35 := List.take_of_length_le (by simp; omega)
  have e4 : (cs.drop 34).take 1 ++ cs.drop 35 = cs.drop 34 := by have := List.take_append_drop 1 (cs.drop 34); rwa [List.drop_drop] at this
  have e3 : (cs.drop 33).take 1 ++ cs.drop 34 = cs.drop 33 := by have := List.take_append_drop 1 (cs.drop 33); rwa [List.drop_drop] at this
  have e2 : (cs.drop 1).take 32 ++ cs.drop 33 = cs.drop 1 := by have := List.take_append_drop 32 (cs.drop 1); rwa [List.drop_drop] at this
  rw [e5, e4, e3, e2, List.drop_zero, List.take_append_drop]
set_option maxRecDepth 100000 in
theorem tn_of_cells {H : Type} {enc : TypeId × Value → H} {W : World} {n : Nat} {cs : List Value} {x : DataW H × List MemPlace} (h : DataW.trod enc Tryd.prog W 0 (fun _ => true) true n 77 cs = some x) :
    ∃ u : Tn, cs = tnl u ∧ u.tok.length = 32 ∧ u.nm.length ≤ 9223372036854775807 := by
  obtain ⟨y0, y1, y2, y3, y4, m, hl, h0, h1, h2, h3, h4⟩ := trod_struct5 Tryd.underlying77 h
  have hc : Tryd.prog.cellsOf 77 = 36 := by kernel_rfl
  have hci : Tryd.prog.cellsOf 3 = 1 := by kernel_rfl
  have hcs : Tryd.prog.cellsOf 9 = 1 := by kernel_rfl
  have hcd : Tryd.prog.cellsOf 25 = 32 := by kernel_rfl
  rw [hc] at hl
  simp only [hci, hcs, hcd] at h0 h1 h2 h3 h4
  obtain ⟨s0, e0, _, hs0⟩ := DataW.trod_string Tryd.underlying9 h0
  obtain ⟨l, hl32, e1⟩ := dig_of_cells (by simp; omega) h1
  obtain ⟨z2, e2, _⟩ := DataW.trod_int Tryd.underlying3 h2
  obtain ⟨z3, e3, _⟩ := DataW.trod_int Tryd.underlying3 h3
  obtain ⟨z4, e4, _⟩ := DataW.trod_int Tryd.underlying3 h4
  refine ⟨⟨s0.data.toList, l, z2, z3, z4⟩, ?_, hl32, hs0⟩
  rw [split36 cs hl]
  rw [e0, e1, e2, e3, e4]
  unfold tnl
  rw [← str_ofT]
  rfl
set_option maxRecDepth 100000 in
theorem tens_of_trod {H : Type} {enc : TypeId × Value → H} {W : World} {a : Option Addr} {len cap : Nat} {d : DataW H} {p : List MemPlace} (h : DataW.Trod enc Tryd.prog W 0 (fun _ => true) true 67 (.slice a len cap) d p) :
    ∃ l : List Tn, l.length = len ∧ Tns W W.heap.size a l ∧ Toks l ∧ (a = none → len = 0) ∧ len ≤ cap ∧ (∀ x ∈ l, x.nm.length ≤ 9223372036854775807) := by
  obtain ⟨fuel, hf⟩ := h
  have hc22 : Tryd.prog.cellsOf 77 = 36 := by kernel_rfl
  rcases Deep.open_slice Tryd.underlying67 hf with ⟨hcs, hx⟩ | ⟨x, l, c, m, n, D, Pl, hcs, _, hl, hm, hmm, hx, hel⟩
  · simp [Value.cells] at hcs
    obtain ⟨rfl, rfl, rfl⟩ := hcs
    exact ⟨[], rfl, fun i hi => by simp at hi, fun a ha => by simp at ha, fun _ => rfl, Nat.le_refl _, fun a ha => by simp at ha⟩
  · simp [Value.cells] at hcs
    obtain ⟨rfl, rfl, rfl⟩ := hcs
    have hm' : m = cap := by simpa using hmm
    subst hm'
    have key : ∀ i, i < len → ∃ y : Tn, (∀ j v, (tnl y)[j]? = some v → W.cell? ((x.add (i * 36)).add j) = some v) ∧ y.tok.length = 32 ∧ y.nm.length ≤ 9223372036854775807 := by
      intro i hi
      obtain ⟨cs', h1, h2⟩ := hel i (by omega)
      rw [hc22] at h1
      obtain ⟨u, rfl, hu, hun⟩ := tn_of_cells h2
      obtain ⟨_, _, h3⟩ := World.cells?_some h1
      refine ⟨u, fun j v hv => ?_, hu, hun⟩
      have hj : j < 36 := by have := (List.getElem?_eq_some_iff.1 hv).1; rw [tnl_length hu] at this; exact this
      rw [h3 j hj]; exact hv
    have hinh : Inhabited Tn := ⟨tn0⟩
    obtain ⟨f, hf'⟩ := Deep.choose_lt key
    refine ⟨(List.range len).map f, by simp, ?_, ?_, (fun e => by cases e), by simpa using hl, fun y hy => by obtain ⟨i, hi, rfl⟩ := List.mem_map.1 hy; exact (hf' i (by simpa using hi)).2.2⟩
    · intro i hi
      have hi' : i < len := by simpa using hi
      obtain ⟨h1, _⟩ := hf' i hi'
      obtain ⟨b, off, spot⟩ := x
      have h00 := (hf' 0 (by omega)).1 0 _ rfl
      have hspot : spot = none := by simpa [Addr.add] using World.cell?_spot h00
      subst hspot
      have e : ((List.range len).map f).getD i tn0 = f i := by rw [List.getD_eq_getElem?_getD, List.getElem?_map, List.getElem?_range hi']; rfl
      rw [e]
      refine ⟨b, off, rfl, ?_, fun j v hv => ?_⟩
      · have := h1 0 _ rfl
        rw [addr_addT, addr_addT] at this
        exact World.block_lt_of_cell? _ _ this
      · have := h1 j v hv
        rw [addr_addT, addr_addT] at this
        exact this
    · intro y hy
      obtain ⟨i, hi, rfl⟩ := List.mem_map.1 hy
      exact (hf' i (by simpa using hi)).2.1
end Go.Proofs.YtkdkpnidiehdfaaDoor
end
