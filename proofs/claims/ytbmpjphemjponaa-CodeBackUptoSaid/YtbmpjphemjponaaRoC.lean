/- codes that came in: what the row's reading of them is in memory, and how heavy they are. -/
import Derived.Test.YtbmpjphemjponaaRo
import Derived.Deep.Strs
import Derived.Lib.SmallJoins
import Derived.Test.YtbmpjphemjponaaVp
import Derived.Test.YtbmpjphemjponaaRows
set_option linter.unusedSimpArgs false
set_option linter.unusedVariables false
namespace Go.Proofs.Ytbmpjphemjponaa
open Go.ChangeShapes Go.WideShapes Go.ChangeAt Go.RowKit

theorem bulk_one {H : Type} (d : DataW H) : 1 ≤ Rows.uptoBulk d := by
  cases d with
  | lit l => cases l <;> simp [Rows.uptoBulk]
  | nil => simp [Rows.uptoBulk]
  | ptr d => simp [Rows.uptoBulk]
  | slice elems spare => simp [Rows.uptoBulk]
  | agg parts => simp [Rows.uptoBulk]
  | iface t d => simp [Rows.uptoBulk]
  | map entries => simp [Rows.uptoBulk]
  | held h => simp [Rows.uptoBulk]
theorem bulk_sum {H α : Type} (f : α → Nat) (g : Nat → α) (D : Nat → DataW H) : ∀ l : List Nat, (∀ i ∈ l, f (g i) ≤ Rows.uptoBulk (D i)) → ((l.map g).map f).sum ≤ Rows.uptoBulkAll (l.map D)
  | [], _ => by simp [Rows.uptoBulkAll]
  | i :: l, h => by
    have h1 := h i (by simp)
    have h2 := bulk_sum f g D l (fun j hj => h j (by simp [hj]))
    simp only [List.map_cons, List.sum_cons, Rows.uptoBulkAll]
    omega
set_option maxRecDepth 100000 in
theorem row_of_slice {H α : Type} [Inhabited α] {enc : TypeId × Value → H} {W : World} {t e : TypeId} (sz : Nat) (hsz : 0 < sz) (ht : Try.prog.underlying t = some (.slice e)) (hc : Try.prog.cellsOf e = sz) (Q : α → List Value → Prop) (f : α → Nat)
    (elem : ∀ (n : Nat) (cs : List Value) (y : DataW H × List MemPlace), DataW.trod enc Try.prog W 0 (fun _ => true) true n e cs = some y → cs.length = sz → ∃ x : α, Q x cs ∧ f x ≤ Rows.uptoBulk y.1)
    {fuel : Nat} {cs0 : List Value} {x : DataW H × List MemPlace} (h : DataW.trod enc Try.prog W 0 (fun _ => true) true fuel t cs0 = some x) :
    ∃ (xs : List α) (p : Slc), cs0 = [.slice p.1 xs.length p.2] ∧ RowAt W W.heap.size p.1 sz xs.length (fun i cs => Q (xs.getD i default) cs) ∧ SlOk p xs.length ∧ (xs.map f).sum + 1 ≤ Rows.uptoBulk x.1 := by
  rcases Deep.open_slice ht h with ⟨hcs, hx⟩ | ⟨a, len, cap, m, n, D, Pl, hcs, _, hl, hm, hmm, hx, hel⟩
  · exact ⟨[], (none, 0), hcs, fun i hi => by simp at hi, ⟨fun _ => rfl, Nat.le_refl _⟩, by rw [hx]; simp [Rows.uptoBulk]⟩
  · have hm' : m = cap := by simpa using hmm
    subst hm'
    have key : ∀ i, i < len → ∃ y : α, ∃ cs, cs.length = sz ∧ (∀ j, j < sz → W.cell? ((a.add (i * sz)).add j) = cs[j]?) ∧ Q y cs ∧ f y ≤ Rows.uptoBulk (D i) := by
      intro i hi
      obtain ⟨cs', h1, h2⟩ := hel i (by omega)
      rw [hc] at h1
      obtain ⟨_, h4, h3⟩ := World.cells?_some h1
      obtain ⟨y, h5, h6⟩ := elem n cs' _ h2 h4
      exact ⟨y, cs', h4, h3, h5, h6⟩
    obtain ⟨g, hg⟩ := Deep.choose_lt key
    refine ⟨(List.range len).map g, (some a, m), ?_, ?_, ⟨fun h => (by cases h), by simpa using hl⟩, ?_⟩
    · rw [hcs]; simp
    · intro i hi
      have hi' : i < len := by simpa using hi
      obtain ⟨cs, h1, h2, h3, _⟩ := hg i hi'
      obtain ⟨b, off, spot⟩ := a
      have hspot : spot = none := by
        obtain ⟨cs0, h10, h20, _⟩ := hg 0 (by omega)
        have h0 := h20 0 hsz
        rw [List.getElem?_eq_getElem (by omega)] at h0
        simpa [Addr.add] using World.cell?_spot h0
      subst hspot
      refine ⟨b, off, cs, rfl, ?_, h1, fun j hj => ?_, ?_⟩
      · have h0 := h2 0 hsz
        rw [List.getElem?_eq_getElem (by omega), addr_add, addr_add] at h0
        exact World.block_lt_of_cell? _ _ h0
      · have h0 := h2 j hj
        rwa [addr_add, addr_add] at h0
      · have e : ((List.range len).map g).getD i default = g i := by rw [List.getD_eq_getElem?_getD, List.getElem?_map, List.getElem?_range hi']; rfl
        show Q (((List.range len).map g).getD i default) cs
        rw [e]; exact h3
    · rw [hx]
      simp only [Rows.uptoBulk]
      have := bulk_sum f g D (List.range len) (fun i hi => by
        obtain ⟨_, _, _, _, h4⟩ := hg i (by simpa using hi)
        exact h4)
      omega
theorem list_two {α : Type} {l : List α} (h : l.length = 2) : ∃ a b, l = [a, b] := by
  match l, h with
  | [a, b], _ => exact ⟨a, b, rfl⟩
theorem list_three {α : Type} {l : List α} (h : l.length = 3) : ∃ a b c, l = [a, b, c] := by
  match l, h with
  | [a, b, c], _ => exact ⟨a, b, c, rfl⟩
theorem list_four {α : Type} {l : List α} (h : l.length = 4) : ∃ a b c d, l = [a, b, c, d] := by
  match l, h with
  | [a, b, c, d], _ => exact ⟨a, b, c, d, rfl⟩
theorem list_five {α : Type} {l : List α} (h : l.length = 5) : ∃ a b c d e, l = [a, b, c, d, e] := by
  match l, h with
  | [a, b, c, d, e], _ => exact ⟨a, b, c, d, e, rfl⟩
section
variable {H : Type} {enc : TypeId × Value → H} {W : World}
theorem vl_elem (n : Nat) (cs : List Value) (y : DataW H × List MemPlace) (h : DataW.trod enc Try.prog W 0 (fun _ => true) true n 51 cs = some y) (hl : cs.length = 2) : ∃ x : Vl, cs = vc x ∧ 1 ≤ Rows.uptoBulk y.1 := by
  obtain ⟨a, b, rfl⟩ := list_two hl
  obtain ⟨y0, y1, m, _, _, h0, h1⟩ := trod_struct2 Try.underlying51 h
  have hc1 : Try.prog.cellsOf 48 = 1 := by kernel_rfl
  have hc2 : Try.prog.cellsOf 49 = 1 := by kernel_rfl
  simp only [hc1, hc2] at h0 h1
  obtain ⟨z0, e0, _⟩ := DataW.trod_int Try.underlying48 h0
  obtain ⟨z1, e1, _⟩ := DataW.trod_int Try.underlying49 h1
  simp at e0 e1
  subst e0 e1
  exact ⟨⟨z0, z1⟩, rfl, bulk_one _⟩
theorem ins_elem (n : Nat) (cs : List Value) (y : DataW H × List MemPlace) (h : DataW.trod enc Try.prog W 0 (fun _ => true) true n 53 cs = some y) (hl : cs.length = 4) : ∃ x : Ins, cs = ic x ∧ 1 ≤ Rows.uptoBulk y.1 := by
  obtain ⟨a, b, c, d, rfl⟩ := list_four hl
  obtain ⟨y0, y1, y2, m, _, _, h0, h1, h2⟩ := Deep.trod_struct3 Try.underlying53 h
  have hc1 : Try.prog.cellsOf 47 = 1 := by kernel_rfl
  have hc2 : Try.prog.cellsOf 3 = 1 := by kernel_rfl
  have hc3 : Try.prog.cellsOf 51 = 2 := by kernel_rfl
  simp only [hc1, hc2, hc3] at h0 h1 h2
  obtain ⟨z0, e0, _⟩ := DataW.trod_int Try.underlying47 h0
  obtain ⟨z1, e1, _⟩ := DataW.trod_int Try.underlying3 h1
  obtain ⟨z2, e2, _⟩ := vl_elem _ _ _ h2 (by simp)
  simp [vc] at e0 e1 e2
  obtain ⟨e2, e3⟩ := e2
  subst e0 e1 e2 e3
  exact ⟨⟨z0, z1, z2⟩, rfl, bulk_one _⟩
theorem sum_ones {α : Type} (l : List α) : (l.map fun _ => 1).sum = l.length := by induction l with
  | nil => rfl
  | cons a l ih => simp only [List.map_cons, List.sum_cons, ih, List.length_cons]; omega
theorem nd_elem (n : Nat) (cs : List Value) (y : DataW H × List MemPlace) (h : DataW.trod enc Try.prog W 0 (fun _ => true) true n 60 cs = some y) (hl : cs.length = 5) : ∃ x : Nd, NdQ W W.heap.size x cs ∧ Nd.wt x ≤ Rows.uptoBulk y.1 := by
  obtain ⟨a, b, c, d, e, rfl⟩ := list_five hl
  obtain ⟨ys, m, _, rfl, _, hlen, hf⟩ := DataW.trod_struct Try.underlying60 h
  match ys, hlen with
  | [y0, y1, y2, y3, y4], _ =>
    have hc1 : Try.prog.cellsOf 54 = 1 := by kernel_rfl
    have hc2 : Try.prog.cellsOf 3 = 1 := by kernel_rfl
    have h0 : DataW.trod enc Try.prog W 0 (fun _ => true) true m 54 [a] = some y0 := by simpa [hc1] using hf 0 _ rfl
    have h1 : DataW.trod enc Try.prog W 0 (fun _ => true) true m 3 [b] = some y1 := by simpa [hc2] using hf 1 _ rfl
    have h2 : DataW.trod enc Try.prog W 0 (fun _ => true) true m 3 [c] = some y2 := by simpa [hc2] using hf 2 _ rfl
    have h3 : DataW.trod enc Try.prog W 0 (fun _ => true) true m 3 [d] = some y3 := by simpa [hc2] using hf 3 _ rfl
    have h4 : DataW.trod enc Try.prog W 0 (fun _ => true) true m 3 [e] = some y4 := by simpa [hc2] using hf 4 _ rfl
    obtain ⟨is, p, e0, hr, hs, hb⟩ := row_of_slice 4 (by omega) Try.underlying54 (by kernel_rfl) (fun (x : Ins) cs => cs = ic x) (fun _ => 1) (fun n cs y h hl => ins_elem n cs y h hl) (by simpa using h0)
    obtain ⟨z1, e1, _⟩ := DataW.trod_int Try.underlying3 (by simpa using h1)
    obtain ⟨z2, e2, _⟩ := DataW.trod_int Try.underlying3 (by simpa using h2)
    obtain ⟨z3, e3, _⟩ := DataW.trod_int Try.underlying3 (by simpa using h3)
    obtain ⟨z4, e4, _⟩ := DataW.trod_int Try.underlying3 (by simpa using h4)
    simp at e0 e1 e2 e3 e4
    subst e0 e1 e2 e3 e4
    refine ⟨⟨is, z1, z2, z3, z4⟩, ⟨p, rfl, hr, hs⟩, ?_⟩
    rw [sum_ones] at hb
    simp only [List.map_cons, List.map_nil, Rows.uptoBulk, Rows.uptoBulkAll, Nd.wt]
    omega
theorem bd_elem (n : Nat) (cs : List Value) (y : DataW H × List MemPlace) (h : DataW.trod enc Try.prog W 0 (fun _ => true) true n 57 cs = some y) (hl : cs.length = 3) : ∃ x : Bd, BdQ W W.heap.size x cs ∧ Bd.wt x ≤ Rows.uptoBulk y.1 := by
  obtain ⟨a, b, c, rfl⟩ := list_three hl
  obtain ⟨y0, y1, y2, m, rfl, _, h0, h1, h2⟩ := Deep.trod_struct3 Try.underlying57 h
  have hc1 : Try.prog.cellsOf 22 = 1 := by kernel_rfl
  have hc2 : Try.prog.cellsOf 3 = 1 := by kernel_rfl
  have hc3 : Try.prog.cellsOf 55 = 1 := by kernel_rfl
  simp only [hc1, hc2, hc3] at h0 h1 h2
  obtain ⟨vs, p, e0, hr, hs, hb⟩ := row_of_slice 2 (by omega) Try.underlying22 (by kernel_rfl) (fun (x : Vl) cs => cs = vc x) (fun _ => 1) (fun n cs y h hl => vl_elem n cs y h hl) (by simpa using h0)
  obtain ⟨z1, e1, _⟩ := DataW.trod_int Try.underlying3 (by simpa using h1)
  obtain ⟨ns, q, e2, hr2, hs2, hb2⟩ := row_of_slice 5 (by omega) Try.underlying55 (by kernel_rfl) (fun (x : Nd) cs => NdQ W W.heap.size x cs) Nd.wt (fun n cs y h hl => nd_elem n cs y h hl) (by simpa using h2)
  simp at e0 e1 e2
  subst e0 e1 e2
  refine ⟨⟨vs, z1, ns⟩, ⟨p, q, rfl, ⟨hr, hs⟩, ⟨hr2, hs2⟩⟩, ?_⟩
  rw [sum_ones] at hb
  simp only [Rows.uptoBulk, Rows.uptoBulkAll, Bd.wt]
  omega
set_option maxRecDepth 100000 in
/-- a code by value. -/
theorem code_of_val {r : Reach} {b0 : Nat} {v : Value} {d : DataW H} {p : List MemPlace} (hv : Value.okWide Try.prog W r b0 25 v) (h : DataW.Trod enc Try.prog W 0 (fun _ => true) true 25 v d p) :
    ∃ c : Cd, CdAt W W.heap.size v c ∧ c.wt + 1 ≤ Rows.uptoBulk d := by
  obtain ⟨v0, v1, v2, y0, y1, y2, m, rfl, rfl, _, h0, h1, h2⟩ := Go.Joins.open_agg3 Try.underlying25 (by kernel_rfl) (by kernel_rfl) hv h
  obtain ⟨vs, p, e0, hr, hs, hb⟩ := row_of_slice 2 (by omega) Try.underlying22 (by kernel_rfl) (fun (x : Vl) cs => cs = vc x) (fun _ => 1) (fun n cs y h hl => vl_elem n cs y h hl) h0
  obtain ⟨z1, e1, _⟩ := DataW.trod_int Try.underlying3 h1
  obtain ⟨xs, q, e2, hr2, hs2, hb2⟩ := row_of_slice 3 (by omega) Try.underlying23 (by kernel_rfl) (fun (x : Bd) cs => BdQ W W.heap.size x cs) Bd.wt (fun n cs y h hl => bd_elem n cs y h hl) h2
  simp at e0 e1 e2
  subst e0 e1 e2
  refine ⟨⟨vs, z1, xs⟩, ⟨p, q, rfl, ⟨hr, hs⟩, ⟨hr2, hs2⟩⟩, ?_⟩
  rw [sum_ones] at hb
  simp only [Rows.uptoBulk, Rows.uptoBulkAll, Cd.wt]
  omega
end
end Go.Proofs.Ytbmpjphemjponaa
