/- few instructions: short lists. -/
import Derived.Test.YtbmpjphemjponaaVd
set_option linter.unusedSimpArgs false
set_option linter.unusedVariables false
namespace Go.Proofs.Ytbmpjphemjponaa
open Go.RowKit

theorem mem_sum_le {α : Type} [Inhabited α] (f : α → Nat) (l : List α) {i : Nat} (hi : i < l.length) : f (l.getD i default) ≤ (l.map f).sum := by
  have h1 := psum_succ f l i hi
  have h2 := psum_mono f l (i + 1)
  omega
theorem len_sum_le {α : Type} (f : α → Nat) (hf : ∀ a, 1 ≤ f a) (l : List α) : l.length ≤ (l.map f).sum := by
  induction l with
  | nil => simp
  | cons a l ih => have := hf a; simp only [List.map_cons, List.sum_cons, List.length_cons]; omega
theorem small_of_wt {c : Cd} (h : c.wt ≤ 4000000) : CdSmall c := by
  unfold Cd.wt at h
  have hb := len_sum_le Bd.wt (fun b => by unfold Bd.wt; omega) c.bodies
  refine ⟨by omega, by omega, fun i hi => ?_⟩
  have h2 := mem_sum_le Bd.wt c.bodies hi
  generalize c.bodies.getD i default = b at *
  have e2 : b.wt = 1 + b.locals.length + (b.nodes.map Nd.wt).sum := rfl
  have hn := len_sum_le Nd.wt (fun b => by unfold Nd.wt; omega) b.nodes
  refine ⟨by omega, by omega, fun j hj => ?_⟩
  have h3 := mem_sum_le Nd.wt b.nodes hj
  have e3 : (b.nodes.getD j default).wt = 1 + (b.nodes.getD j default).code.length := rfl
  unfold NdSmall
  omega
end Go.Proofs.Ytbmpjphemjponaa
