/- integers that came in -/
import Derived.Test.YtaalinhkikmfaaaRo
import Derived.Deep.Strs
import Derived.Test.YtaalinhkikmfaaaIz
set_option linter.unusedSimpArgs false
set_option linter.unusedVariables false
namespace Go.Proofs.Ytaalinhkikmfaaa
open Go.ChangeShapes Go.WideShapes Go.ChangeAt Go.RowKit
set_option maxRecDepth 100000 in
theorem zs_of_trod {H : Type} {enc : TypeId × Value → H} {W : World} {a : Option Addr} {len cap : Nat} {d : DataW H} {p : List MemPlace} (h : DataW.Trod enc Try.prog W 0 (fun _ => true) true 23 (.slice a len cap) d p) (hw : (d.weights Try.prog 23).all (· ≤ reachBytes) = true) :
    ∃ zs : List Int, zs.length = len ∧ Zs W W.heap.size a zs ∧ (a = none → zs.length = 0) ∧ zs.length ≤ 140737488351232 ∧ zs.length ≤ cap ∧ Zw zs := by
  obtain ⟨fuel, hf⟩ := h
  rcases Go.ChangeShapes.open_ints Try.underlying23 Try.underlying3 (by kernel_rfl) hf with ⟨hcs, hx⟩ | ⟨x, l, c, zs, hcs, _, hl, hm, hzl, hx, hel, hwf⟩
  · simp [Value.cells] at hcs
    obtain ⟨rfl, rfl, rfl⟩ := hcs
    exact ⟨[], rfl, fun i hi => by simp at hi, by simp, by simp, by simp, fun i hi => by simp at hi⟩
  · simp [Value.cells] at hcs
    obtain ⟨rfl, rfl, rfl⟩ := hcs
    simp only [if_true] at hzl
    have hd : d = .slice (lits .i64 (zs.take len)) (lits .i64 (zs.drop len)) := congrArg Prod.fst hx
    rw [hd] at hw
    have hb : Try.prog.bytesOf 3 = 8 := by kernel_rfl
    have hu := Try.underlying23
    unfold DataW.weights at hw
    generalize Try.prog.underlying 23 = u at hw hu
    subst hu
    simp only [List.all_cons, List.all_append, Bool.and_eq_true, decide_eq_true_eq, hb] at hw
    have hlen : len ≤ 140737488351232 := by
      have h4 := hw.1
      simp [lits] at h4
      have : reachBytes = 140737488351232 := by decide
      omega
    refine ⟨zs.take len, by simp; omega, ?_, by simp, by simp; omega, by simp; omega, ?_⟩
    · intro i hi
      have hi' : i < len := by simp at hi; omega
      have h1 := hel i (by omega)
      obtain ⟨b, off, spot⟩ := x
      have hspot : spot = none := by have h0 := hel 0 (by omega); simpa [Addr.add] using World.cell?_spot h0
      subst hspot
      rw [addr_add] at h1
      have e : (zs.take len).getD i 0 = zs.getD i 0 := by simp [List.getD_eq_getElem?_getD, List.getElem?_take, hi']
      rw [e]
      exact ⟨b, off, rfl, World.block_lt_of_cell? _ _ h1, h1⟩
    · intro i hi
      have hi' : i < len ∧ i < zs.length := by simp at hi; omega
      have e : (zs.take len).getD i 0 = zs.getD i 0 := by simp [List.getD_eq_getElem?_getD, List.getElem?_take, hi'.1]
      rw [e]
      have h1 : zs.getD i 0 ∈ zs := by
        rw [List.getD_eq_getElem?_getD, List.getElem?_eq_getElem hi'.2]
        exact List.getElem_mem _
      have h2 := hwf _ h1
      simp only [Lit.wf, Bool.and_eq_true, decide_eq_true_eq] at h2
      have h3 : IntKind.i64.min = -9223372036854775808 := by decide
      have h4 : IntKind.i64.max = 9223372036854775807 := by decide
      omega
end Go.Proofs.Ytaalinhkikmfaaa
