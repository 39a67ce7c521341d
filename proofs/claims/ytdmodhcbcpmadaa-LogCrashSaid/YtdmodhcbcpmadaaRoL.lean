/- lists of bytes that came in -/
import Derived.Test.YtdmodhcbcpmadaaRoB
import Derived.Test.YtdmodhcbcpmadaaLz
set_option linter.unusedSimpArgs false
set_option linter.unusedVariables false
namespace Go.Proofs.Ytdmodhcbcpmadaa
open Go.ChangeShapes Go.WideShapes Go.ChangeAt Go.RowKit

set_option maxRecDepth 100000 in
theorem lists_of_trod {H : Type} {enc : TypeId × Value → H} {W : World} {a : Option Addr} {len cap : Nat} {d : DataW H} {p : List MemPlace} (h : DataW.Trod enc Try.prog W 0 (fun _ => true) true 58 (.slice a len cap) d p) (hw : (d.weights Try.prog 58).all (· ≤ reachBytes) = true) :
    ∃ ls : List (List UInt8), ls.length = len ∧ Ls W W.heap.size a ls ∧ (ls.length ≤ 140737488351232 ∧ ∀ l ∈ ls, l.length ≤ 140737488351232) := by
  obtain ⟨fuel, hf⟩ := h
  have hc22 : Try.prog.cellsOf 29 = 1 := by kernel_rfl
  rcases Deep.open_slice1 Try.underlying58 hc22 hf with ⟨hcs, hx⟩ | ⟨x, l, c, m, n, V, D, Pl, hcs, _, hl, hm, hmm, hx, hel⟩
  · simp [Value.cells] at hcs
    obtain ⟨rfl, rfl, rfl⟩ := hcs
    exact ⟨[], rfl, fun i hi => by simp at hi, by simp, by simp⟩
  · simp [Value.cells] at hcs
    obtain ⟨rfl, rfl, rfl⟩ := hcs
    have hm' : m = cap := by simpa using hmm
    subst hm'
    have hd : d = .slice ((List.range len).map D) ((List.range (m - len)).map fun j => D (len + j)) := congrArg Prod.fst hx
    rw [hd] at hw
    have hb : Try.prog.bytesOf 29 = 24 := by kernel_rfl
    have hu := Try.underlying58
    unfold DataW.weights at hw
    generalize Try.prog.underlying 58 = u at hw hu
    subst hu
    simp only [List.all_cons, List.all_append, Bool.and_eq_true, decide_eq_true_eq, hb] at hw
    have hlen : len ≤ 140737488351232 := by
      have h4 := hw.1
      simp at h4
      have : reachBytes = 140737488351232 := by decide
      omega
    have key : ∀ i, i < len → ∃ y : List UInt8 × Option Addr × Nat, W.cell? (x.add i) = some (.slice y.2.1 y.1.length y.2.2) ∧ Bs W W.heap.size y.2.1 y.1 ∧ (y.2.1 = none → y.1 = []) ∧ y.1.length ≤ 140737488351232 := by
      intro i hi
      obtain ⟨h1, h2⟩ := hel i (by omega)
      have hwi := weightsAll_mem (d := D i) (by simp; exact ⟨i, hi, rfl⟩) hw.2.1
      obtain ⟨l, a, c, hV, h3, h4, h5⟩ := bytes_of_cell h2 hwi
      exact ⟨(l, a, c), by rw [h1, hV], h3, h4, h5⟩
    obtain ⟨f, hf'⟩ := Deep.choose_lt key
    refine ⟨(List.range len).map fun i => (f i).1, by simp, ?_, by simpa using hlen, ?_⟩
    · intro i hi
      have hi' : i < len := by simpa using hi
      obtain ⟨h1, h2, h3, h4⟩ := hf' i hi'
      obtain ⟨b, off, spot⟩ := x
      have h0 := (hf' 0 (by omega)).1
      have hspot : spot = none := by simpa [Addr.add] using World.cell?_spot h0
      subst hspot
      rw [addr_add] at h1
      have e : ((List.range len).map fun i => (f i).1).getD i [] = (f i).1 := by rw [List.getD_eq_getElem?_getD, List.getElem?_map, List.getElem?_range hi']; rfl
      rw [e]
      exact ⟨b, off, rfl, World.block_lt_of_cell? _ _ h1, _, _, h1, h2, h3⟩
    · intro l hl
      simp only [List.mem_map, List.mem_range] at hl
      obtain ⟨i, hi, rfl⟩ := hl
      exact (hf' i hi).2.2.2
theorem lists_cap {H : Type} {enc : TypeId × Value → H} {W : World} {a : Option Addr} {len cap : Nat} {d : DataW H} {p : List MemPlace} (h : DataW.Trod enc Try.prog W 0 (fun _ => true) true 58 (.slice a len cap) d p) : len ≤ cap := by
  obtain ⟨fuel, hf⟩ := h
  have hc22 : Try.prog.cellsOf 29 = 1 := by kernel_rfl
  rcases Deep.open_slice1 Try.underlying58 hc22 hf with ⟨hcs, hx⟩ | ⟨x, l, c, m, n, V, D, Pl, hcs, _, hl, hm, hmm, hx, hel⟩
  · simp [Value.cells] at hcs
    obtain ⟨rfl, rfl, rfl⟩ := hcs
    exact Nat.le_refl _
  · simp [Value.cells] at hcs
    obtain ⟨rfl, rfl, rfl⟩ := hcs
    exact hl
end Go.Proofs.Ytdmodhcbcpmadaa
