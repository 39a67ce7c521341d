/- a code by value, and that its numbers are of their width. -/
import Derived.Test.YtbmpjphemjponaaRoC
import Derived.Test.YtbmpjphemjponaaWp
set_option linter.unusedSimpArgs false
set_option linter.unusedVariables false
namespace Go.Proofs.Ytbmpjphemjponaa
open Go.ChangeShapes Go.WideShapes Go.ChangeAt Go.RowKit

theorem wf_u8 {n : Int} (h : (Lit.int .u8 n).wf = true) : 0 ≤ n ∧ n < 256 := by
  simp [Lit.wf, IntKind.min, IntKind.max, IntKind.signed, IntKind.bits] at h; omega
theorem wf_u64 {n : Int} (h : (Lit.int .u64 n).wf = true) : 0 ≤ n ∧ n < 18446744073709551616 := by
  simp [Lit.wf, IntKind.min, IntKind.max, IntKind.signed, IntKind.bits] at h; omega
theorem row_fst {w : World} {B sz n : Nat} {A : Option Addr} {Q : Nat → List Value → Prop} {R : Nat → Prop} (h : RowAt w B A sz n (fun i cs => Q i cs ∧ R i)) : RowAt w B A sz n Q := fun i hi => by
  obtain ⟨b, o, cs, h1, h2, h3, h4, h5, _⟩ := h i hi
  exact ⟨b, o, cs, h1, h2, h3, h4, h5⟩
theorem row_snd {w : World} {B sz n : Nat} {A : Option Addr} {Q : Nat → List Value → Prop} {R : Nat → Prop} (h : RowAt w B A sz n (fun i cs => Q i cs ∧ R i)) : ∀ i, i < n → R i := fun i hi => by
  obtain ⟨b, o, cs, h1, h2, h3, h4, _, h5⟩ := h i hi
  exact h5
section
variable {H : Type} {enc : TypeId × Value → H} {W : World}
theorem vl_elemK (n : Nat) (cs : List Value) (y : DataW H × List MemPlace) (h : DataW.trod enc Try.prog W 0 (fun _ => true) true n 51 cs = some y) (hl : cs.length = 2) : ∃ x : Vl, (cs = vc x ∧ VlIn x) ∧ 1 ≤ Rows.uptoBulk y.1 := by
  obtain ⟨a, b, rfl⟩ := list_two hl
  obtain ⟨y0, y1, m, _, _, h0, h1⟩ := trod_struct2 Try.underlying51 h
  have hc1 : Try.prog.cellsOf 48 = 1 := by kernel_rfl
  have hc2 : Try.prog.cellsOf 49 = 1 := by kernel_rfl
  simp only [hc1, hc2] at h0 h1
  obtain ⟨z0, e0, _, f0⟩ := DataW.trod_int Try.underlying48 h0
  obtain ⟨z1, e1, _, f1⟩ := DataW.trod_int Try.underlying49 h1
  simp at e0 e1
  subst e0 e1
  exact ⟨⟨z0, z1⟩, ⟨rfl, wf_u8 f0, wf_u64 f1⟩, bulk_one _⟩
theorem ins_elemK (n : Nat) (cs : List Value) (y : DataW H × List MemPlace) (h : DataW.trod enc Try.prog W 0 (fun _ => true) true n 53 cs = some y) (hl : cs.length = 4) : ∃ x : Ins, (cs = ic x ∧ InIn x) ∧ 1 ≤ Rows.uptoBulk y.1 := by
  obtain ⟨a, b, c, d, rfl⟩ := list_four hl
  obtain ⟨y0, y1, y2, m, _, _, h0, h1, h2⟩ := Deep.trod_struct3 Try.underlying53 h
  have hc1 : Try.prog.cellsOf 47 = 1 := by kernel_rfl
  have hc2 : Try.prog.cellsOf 3 = 1 := by kernel_rfl
  have hc3 : Try.prog.cellsOf 51 = 2 := by kernel_rfl
  simp only [hc1, hc2, hc3] at h0 h1 h2
  obtain ⟨z0, e0, _, f0⟩ := DataW.trod_int Try.underlying47 h0
  obtain ⟨z1, e1, _⟩ := DataW.trod_int Try.underlying3 h1
  obtain ⟨z2, ⟨e2, f2⟩, _⟩ := vl_elemK _ _ _ h2 (by simp)
  simp [vc] at e0 e1 e2
  obtain ⟨e2, e3⟩ := e2
  subst e0 e1 e2 e3
  exact ⟨⟨z0, z1, z2⟩, ⟨rfl, wf_u8 f0, f2⟩, bulk_one _⟩
theorem nd_elemK (n : Nat) (cs : List Value) (y : DataW H × List MemPlace) (h : DataW.trod enc Try.prog W 0 (fun _ => true) true n 60 cs = some y) (hl : cs.length = 5) : ∃ x : Nd, (NdQ W W.heap.size x cs ∧ IsIn x.code) ∧ Nd.wt x ≤ Rows.uptoBulk y.1 := by
  obtain ⟨a, b, c, d, e, rfl⟩ := list_five hl
  obtain ⟨ys, m, _, rfl, _, hlen, hf⟩ := DataW.trod_struct Try.underlying60 h
  match ys, hlen with
  | [y0, y1, y2, y3, y4], _ =>
    have hc1 : Try.prog.cellsOf 54 = 1 := by kernel_rfl
    have hc2 : Try.prog.cellsOf 3 = 1 := by kernel_rfl
    have h0 : DataW.trod enc Try.prog W 0 (fun _ => true) true m 54 [a] = some y0 := by simpa [hc1] using hf 0 _ rfl
    have h1 : DataW.trod enc Try.prog W 0 (fun _ => true) true m 3 [b] = some y1 := by simpa [hc2] using hf 1 _ rfl
    have h2 : DataW.trod enc Try.prog W 0 (fun _ => true) true m 3 [c] = some y2 := by simpa [hc2] using hf 2 _ rfl
    have h3 : DataW.trod enc Try.prog W 0 (fun _ => true) true m 3 [d] = some y3 := by simpa [hc2] using hf 3 _ rfl
    have h4 : DataW.trod enc Try.prog W 0 (fun _ => true) true m 3 [e] = some y4 := by simpa [hc2] using hf 4 _ rfl
    obtain ⟨is, p, e0, hr, hs, hb⟩ := row_of_slice 4 (by omega) Try.underlying54 (by kernel_rfl) (fun (x : Ins) cs => cs = ic x ∧ InIn x) (fun _ => 1) (fun n cs y h hl => ins_elemK n cs y h hl) (by simpa using h0)
    obtain ⟨z1, e1, _⟩ := DataW.trod_int Try.underlying3 (by simpa using h1)
    obtain ⟨z2, e2, _⟩ := DataW.trod_int Try.underlying3 (by simpa using h2)
    obtain ⟨z3, e3, _⟩ := DataW.trod_int Try.underlying3 (by simpa using h3)
    obtain ⟨z4, e4, _⟩ := DataW.trod_int Try.underlying3 (by simpa using h4)
    simp at e0 e1 e2 e3 e4
    subst e0 e1 e2 e3 e4
    refine ⟨⟨is, z1, z2, z3, z4⟩, ⟨⟨p, rfl, row_fst hr, hs⟩, row_snd hr⟩, ?_⟩
    rw [sum_ones] at hb
    simp only [List.map_cons, List.map_nil, Rows.uptoBulk, Rows.uptoBulkAll, Nd.wt]
    omega
theorem bd_elemK (n : Nat) (cs : List Value) (y : DataW H × List MemPlace) (h : DataW.trod enc Try.prog W 0 (fun _ => true) true n 57 cs = some y) (hl : cs.length = 3) : ∃ x : Bd, (BdQ W W.heap.size x cs ∧ BdIn x) ∧ Bd.wt x ≤ Rows.uptoBulk y.1 := by
  obtain ⟨a, b, c, rfl⟩ := list_three hl
  obtain ⟨y0, y1, y2, m, rfl, _, h0, h1, h2⟩ := Deep.trod_struct3 Try.underlying57 h
  have hc1 : Try.prog.cellsOf 22 = 1 := by kernel_rfl
  have hc2 : Try.prog.cellsOf 3 = 1 := by kernel_rfl
  have hc3 : Try.prog.cellsOf 55 = 1 := by kernel_rfl
  simp only [hc1, hc2, hc3] at h0 h1 h2
  obtain ⟨vs, p, e0, hr, hs, hb⟩ := row_of_slice 2 (by omega) Try.underlying22 (by kernel_rfl) (fun (x : Vl) cs => cs = vc x ∧ VlIn x) (fun _ => 1) (fun n cs y h hl => vl_elemK n cs y h hl) (by simpa using h0)
  obtain ⟨z1, e1, _⟩ := DataW.trod_int Try.underlying3 (by simpa using h1)
  obtain ⟨ns, q, e2, hr2, hs2, hb2⟩ := row_of_slice 5 (by omega) Try.underlying55 (by kernel_rfl) (fun (x : Nd) cs => NdQ W W.heap.size x cs ∧ IsIn x.code) Nd.wt (fun n cs y h hl => nd_elemK n cs y h hl) (by simpa using h2)
  simp at e0 e1 e2
  subst e0 e1 e2
  refine ⟨⟨vs, z1, ns⟩, ⟨⟨p, q, rfl, ⟨row_fst hr, hs⟩, ⟨row_fst hr2, hs2⟩⟩, row_snd hr, row_snd hr2⟩, ?_⟩
  rw [sum_ones] at hb
  simp only [Rows.uptoBulk, Rows.uptoBulkAll, Bd.wt]
  omega
set_option maxRecDepth 100000 in
/-- a code by value. -/
theorem codeK_of_val {r : Reach} {b0 : Nat} {v : Value} {d : DataW H} {p : List MemPlace} (hv : Value.okWide Try.prog W r b0 25 v) (h : DataW.Trod enc Try.prog W 0 (fun _ => true) true 25 v d p) :
    ∃ c : Cd, CdAt W W.heap.size v c ∧ CdIn c ∧ c.wt + 1 ≤ Rows.uptoBulk d := by
  obtain ⟨v0, v1, v2, y0, y1, y2, m, rfl, rfl, _, h0, h1, h2⟩ := Go.Joins.open_agg3 Try.underlying25 (by kernel_rfl) (by kernel_rfl) hv h
  obtain ⟨vs, p, e0, hr, hs, hb⟩ := row_of_slice 2 (by omega) Try.underlying22 (by kernel_rfl) (fun (x : Vl) cs => cs = vc x ∧ VlIn x) (fun _ => 1) (fun n cs y h hl => vl_elemK n cs y h hl) h0
  obtain ⟨z1, e1, _⟩ := DataW.trod_int Try.underlying3 h1
  obtain ⟨xs, q, e2, hr2, hs2, hb2⟩ := row_of_slice 3 (by omega) Try.underlying23 (by kernel_rfl) (fun (x : Bd) cs => BdQ W W.heap.size x cs ∧ BdIn x) Bd.wt (fun n cs y h hl => bd_elemK n cs y h hl) h2
  simp at e0 e1 e2
  subst e0 e1 e2
  refine ⟨⟨vs, z1, xs⟩, ⟨p, q, rfl, ⟨row_fst hr, hs⟩, ⟨row_fst hr2, hs2⟩⟩, ⟨row_snd hr, row_snd hr2⟩, ?_⟩
  rw [sum_ones] at hb
  simp only [Rows.uptoBulk, Rows.uptoBulkAll, Cd.wt]
  omega
end
end Go.Proofs.Ytbmpjphemjponaa
