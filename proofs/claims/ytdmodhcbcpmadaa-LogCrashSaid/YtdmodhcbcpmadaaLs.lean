/- lists of slices of bytes. -/
import Derived.Test.YtdmodhcbcpmadaaOf
import Derived.Test.YtdmodhcbcpmadaaLz
set_option linter.unusedSimpArgs false
set_option linter.unusedVariables false
namespace Go.Proofs.Ytdmodhcbcpmadaa
open Go.RowKit

theorem Ls.rows {w : World} {B B' n : Nat} {v : Value} {vs : List Value} {ls : List (List UInt8)} {e : TypeId} (h : w.ownsRow B e 1 v n vs) (hr : Rows8 w B' vs ls) (hn : n = ls.length) : ∃ A c, v = .slice A ls.length c ∧ Ls w w.heap.size A ls ∧ n ≤ c ∧ (A = none → ls = []) := by
  subst hn
  obtain ⟨A, c, rfl, hrd, h0, hc⟩ := own_rd h
  refine ⟨A, c, rfl, fun i hi => ?_, hc, fun e => List.eq_nil_of_length_eq_zero (h0 e)⟩
  have hl := hr.len
  have hi' : i < vs.length := by omega
  obtain ⟨b, off, e, hb, hcell⟩ := hrd i (vs.getD i undef) (by rw [List.getD_eq_getElem?_getD, List.getElem?_eq_getElem hi']; rfl)
  obtain ⟨Ai, ci, e2, hri, hni, _⟩ := own_rd (hr.row i hi)
  rw [e2] at hcell
  exact ⟨b, off, e, hb, Ai, ci, hcell, hri.bs, fun e => List.eq_nil_of_length_eq_zero (hni e)⟩
def OneP (l : List UInt8) (w : World) (e : Ending) (w' : World) : Prop :=
  Below w.heap.size w w' ∧ ((oneL l = none ∧ e = .returned (.tuple #[.slice none 0 0, .int .i64 4])) ∨ (∃ r v, oneL l = some r ∧ e = .returned (.tuple #[v, .int .i64 0]) ∧ w'.ownsRow w.heap.size 5 1 v r.length (bcells r)))
end Go.Proofs.Ytdmodhcbcpmadaa
