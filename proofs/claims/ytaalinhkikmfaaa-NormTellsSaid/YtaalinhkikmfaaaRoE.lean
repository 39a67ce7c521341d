/- events that came in -/
import Derived.Test.YtaalinhkikmfaaaRo
import Derived.Deep.Strs
import Derived.Test.YtaalinhkikmfaaaCb
set_option linter.unusedSimpArgs false
set_option linter.unusedVariables false
namespace Go.Proofs.Ytaalinhkikmfaaa
open Go.ChangeShapes Go.WideShapes Go.ChangeAt Go.RowKit

set_option maxRecDepth 100000 in
theorem event_of_cells {H : Type} {enc : TypeId × Value → H} {W : World} {n : Nat} {cs : List Value} {x : DataW H × List MemPlace} (h : DataW.trod enc Try.prog W 0 (fun _ => true) true n 50 cs = some x) :
    ∃ e : Ev, cs = [.int .i64 e.t, .int .i64 e.k, .int .i64 e.o] := by
  obtain ⟨y0, y1, y2, m, _, hl, h0, h1, h2⟩ := Deep.trod_struct3 Try.underlying50 h
  have hc : Try.prog.cellsOf 50 = 3 := by kernel_rfl
  have hci : Try.prog.cellsOf 3 = 1 := by kernel_rfl
  rw [hc] at hl
  match cs, hl with
  | [a, b, c], _ =>
    simp only [hci] at h0 h1 h2
    obtain ⟨z0, e0, _⟩ := DataW.trod_int Try.underlying3 h0
    obtain ⟨z1, e1, _⟩ := DataW.trod_int Try.underlying3 h1
    obtain ⟨z2, e2, _⟩ := DataW.trod_int Try.underlying3 h2
    simp at e0 e1 e2
    subst e0 e1 e2
    exact ⟨⟨z0, z1, z2⟩, rfl⟩
set_option maxRecDepth 100000 in
theorem events_of_trod {H : Type} {enc : TypeId × Value → H} {W : World} {a : Option Addr} {len cap : Nat} {d : DataW H} {p : List MemPlace} (h : DataW.Trod enc Try.prog W 0 (fun _ => true) true 22 (.slice a len cap) d p) (hw : (d.weights Try.prog 22).all (· ≤ reachBytes) = true) :
    ∃ l : List Ev, l.length = len ∧ Evs W W.heap.size a l ∧ (a = none → l.length = 0) ∧ l.length ≤ 140737488351232 ∧ l.length ≤ cap := by
  obtain ⟨fuel, hf⟩ := h
  have hc22 : Try.prog.cellsOf 50 = 3 := by kernel_rfl
  rcases Deep.open_slice Try.underlying22 hf with ⟨hcs, hx⟩ | ⟨x, l, c, m, n, D, Pl, hcs, _, hl, hm, hmm, hx, hel⟩
  · simp [Value.cells] at hcs
    obtain ⟨rfl, rfl, rfl⟩ := hcs
    exact ⟨[], rfl, fun i hi => by simp at hi, by simp, by simp, by simp⟩
  · simp [Value.cells] at hcs
    obtain ⟨rfl, rfl, rfl⟩ := hcs
    have hm' : m = cap := by simpa using hmm
    subst hm'
    have hd : d = .slice ((List.range len).map D) ((List.range (m - len)).map fun j => D (len + j)) := congrArg Prod.fst hx
    rw [hd] at hw
    have hb : Try.prog.bytesOf 50 = 24 := by kernel_rfl
    have hu := Try.underlying22
    unfold DataW.weights at hw
    generalize Try.prog.underlying 22 = u at hw hu
    subst hu
    simp only [List.all_cons, List.all_append, Bool.and_eq_true, decide_eq_true_eq, hb] at hw
    have hlen : len ≤ 140737488351232 := by
      have h4 := hw.1
      simp at h4
      have : reachBytes = 140737488351232 := by decide
      omega
    have key : ∀ i, i < len → ∃ y : Ev, W.cell? ((x.add (i * 3)).add 0) = some (.int .i64 y.t) ∧ W.cell? ((x.add (i * 3)).add 1) = some (.int .i64 y.k) ∧ W.cell? ((x.add (i * 3)).add 2) = some (.int .i64 y.o) := by
      intro i hi
      obtain ⟨cs', h1, h2⟩ := hel i (by omega)
      rw [hc22] at h1
      obtain ⟨e, rfl⟩ := event_of_cells h2
      obtain ⟨_, _, h3⟩ := World.cells?_some h1
      exact ⟨e, h3 0 (by omega), h3 1 (by omega), h3 2 (by omega)⟩
    have hinh : Inhabited Ev := ⟨Ev.zero⟩
    obtain ⟨f, hf'⟩ := Deep.choose_lt key
    refine ⟨(List.range len).map f, by simp, ?_, by simp, by simpa using hlen, by simpa using hl⟩
    intro i hi
    have hi' : i < len := by simpa using hi
    obtain ⟨h1, h2, h3⟩ := hf' i hi'
    obtain ⟨b, off, spot⟩ := x
    have hspot : spot = none := by have h0 := (hf' 0 (by omega)).1; simpa [Addr.add] using World.cell?_spot h0
    subst hspot
    rw [addr_add, addr_add] at h1 h2 h3
    have e : ev ((List.range len).map f) i = f i := by unfold ev; rw [List.getD_eq_getElem?_getD, List.getElem?_map, List.getElem?_range hi']; rfl
    rw [e]
    exact ⟨b, off, rfl, World.block_lt_of_cell? _ _ h1, h1, h2, h3⟩
end Go.Proofs.Ytaalinhkikmfaaa
