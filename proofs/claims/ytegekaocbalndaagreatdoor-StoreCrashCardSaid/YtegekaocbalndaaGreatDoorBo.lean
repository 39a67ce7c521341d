/- steps of a store and integers that came in. -/
import Derived.Test.YtegekaocbalndaaGreatDoorAr
import Derived.Test.YtegekaocbalndaaGreatDoorIz
import Derived.Deep.Strs
import Derived.Deep.SlicePairs
set_option linter.unusedSimpArgs false
set_option linter.unusedVariables false
namespace Go.Proofs.YtegekaocbalndaaGreatDoor
open Go.ChangeShapes Go.WideShapes Go.ChangeAt Go.RowKit

theorem addr_addT (b off k : Nat) : (⟨b, off, none⟩ : Addr).add k = ⟨b, off + k, none⟩ := by unfold Addr.add; split <;> simp_all
theorem bytes_of_cellT {H : Type} {enc : TypeId × Value → H} {W : World} {n : Nat} {V : Value} {d : DataW H × List MemPlace} (h : DataW.trod enc Tryz.prog W 0 (fun _ => true) true n 30 [V] = some d) :
    ∃ (l : List UInt8) (a : Option Addr) (c : Nat), V = .slice a l.length c ∧ Bs W W.heap.size a l ∧ (a = none → l = []) := by
  obtain ⟨d, p⟩ := d
  rcases open_ints Tryz.underlying30 Tryz.underlying5 (by kernel_rfl) h with ⟨hcs, hx⟩ | ⟨x, l, c, zs, hcs, _, hl, hm, hz, hx, hcell, hwz⟩
  · simp at hcs
    subst hcs
    exact ⟨[], none, 0, rfl, Bs.nil _ _ _, fun _ => rfl⟩
  · simp at hcs
    subst hcs
    obtain ⟨l', h1, h2, h3⟩ := bytes_of_trod (enc := enc) (W := W) (a := some x) (len := l) (cap := c) ⟨n, by simpa [Value.cells] using h⟩
    subst h1
    exact ⟨l', _, _, rfl, h2, h3⟩
/-- a step of a store: is it a Compact, and its bytes. -/
abbrev Sp := Bool × List UInt8
def sp0 : Sp := (false, [])
/-- steps in memory. -/
def Sps (W : World) (B : Nat) (a : Option Addr) (l : List Sp) : Prop := ∀ i, i < l.length → ∃ b off A c, a = some ⟨b, off, none⟩ ∧ b < B ∧ W.cell? ⟨b, off + i * 2, none⟩ = some (.bool (l.getD i sp0).1) ∧ W.cell? ⟨b, off + i * 2 + 1, none⟩ = some (.slice A (l.getD i sp0).2.length c) ∧ Bs W W.heap.size A (l.getD i sp0).2 ∧ (A = none → (l.getD i sp0).2 = [])
set_option maxRecDepth 100000 in
theorem sp_of_cells {H : Type} {enc : TypeId × Value → H} {W : World} {n : Nat} {cs : List Value} {x : DataW H × List MemPlace} (h : DataW.trod enc Tryz.prog W 0 (fun _ => true) true n 38 cs = some x) :
    ∃ (e : Sp) (A : Option Addr) (c : Nat), cs = [.bool e.1, .slice A e.2.length c] ∧ Bs W W.heap.size A e.2 ∧ (A = none → e.2 = []) := by
  obtain ⟨y0, y1, m, _, hl, h0, h1⟩ := trod_struct2 Tryz.underlying38 h
  have hc : Tryz.prog.cellsOf 38 = 2 := by kernel_rfl
  have hci : Tryz.prog.cellsOf 4 = 1 := by kernel_rfl
  have hcb : Tryz.prog.cellsOf 30 = 1 := by kernel_rfl
  rw [hc] at hl
  match cs, hl with
  | [a, f], _ =>
    simp only [hci, hcb] at h0 h1
    obtain ⟨z0, e0, _⟩ := DataW.trod_bool Tryz.underlying4 h0
    have h1' : DataW.trod enc Tryz.prog W 0 (fun _ => true) true m 30 [f] = some y1 := h1
    obtain ⟨l, A, cc, e2, hb, hA0⟩ := bytes_of_cellT h1'
    simp at e0
    subst e0 e2
    exact ⟨(z0, l), A, cc, rfl, hb, hA0⟩
set_option maxRecDepth 100000 in
theorem sps_of_trod {H : Type} {enc : TypeId × Value → H} {W : World} {a : Option Addr} {len cap : Nat} {d : DataW H} {p : List MemPlace} (h : DataW.Trod enc Tryz.prog W 0 (fun _ => true) true 22 (.slice a len cap) d p) :
    ∃ l : List Sp, l.length = len ∧ Sps W W.heap.size a l := by
  obtain ⟨fuel, hf⟩ := h
  have hc22 : Tryz.prog.cellsOf 38 = 2 := by kernel_rfl
  rcases Deep.open_slice Tryz.underlying22 hf with ⟨hcs, hx⟩ | ⟨x, l, c, m, n, D, Pl, hcs, _, hl, hm, hmm, hx, hel⟩
  · simp [Value.cells] at hcs
    obtain ⟨rfl, rfl, rfl⟩ := hcs
    exact ⟨[], rfl, fun i hi => by simp at hi⟩
  · simp [Value.cells] at hcs
    obtain ⟨rfl, rfl, rfl⟩ := hcs
    have hm' : m = cap := by simpa using hmm
    subst hm'
    have key : ∀ i, i < len → ∃ y : Sp × Option Addr × Nat, (W.cell? ((x.add (i * 2)).add 0) = some (.bool y.1.1) ∧ W.cell? ((x.add (i * 2)).add 1) = some (.slice y.2.1 y.1.2.length y.2.2)) ∧ Bs W W.heap.size y.2.1 y.1.2 ∧ (y.2.1 = none → y.1.2 = []) := by
      intro i hi
      obtain ⟨cs', h1, h2⟩ := hel i (by omega)
      rw [hc22] at h1
      obtain ⟨e, A, c, rfl, hb, hA0⟩ := sp_of_cells h2
      obtain ⟨_, _, h3⟩ := World.cells?_some h1
      exact ⟨(e, A, c), ⟨h3 0 (by omega), h3 1 (by omega)⟩, hb, hA0⟩
    have hinh : Inhabited (Sp × Option Addr × Nat) := ⟨(sp0, none, 0)⟩
    obtain ⟨f, hf'⟩ := Deep.choose_lt key
    refine ⟨(List.range len).map fun i => (f i).1, by simp, ?_⟩
    intro i hi
    have hi' : i < len := by simpa using hi
    obtain ⟨⟨h1, h2⟩, h7, h8⟩ := hf' i hi'
    obtain ⟨b, off, spot⟩ := x
    have hspot : spot = none := by have h0 := (hf' 0 (by omega)).1.1; simpa [Addr.add] using World.cell?_spot h0
    subst hspot
    rw [addr_addT, addr_addT] at h1 h2
    have e : ((List.range len).map fun i => (f i).1).getD i sp0 = (f i).1 := by rw [List.getD_eq_getElem?_getD, List.getElem?_map, List.getElem?_range hi']; rfl
    rw [e]
    exact ⟨b, off, _, _, rfl, World.block_lt_of_cell? _ _ h1, h1, h2, h7, h8⟩
set_option maxRecDepth 100000 in
theorem zs_of_trod {H : Type} {enc : TypeId × Value → H} {W : World} {a : Option Addr} {len cap : Nat} {d : DataW H} {p : List MemPlace} (h : DataW.Trod enc Tryz.prog W 0 (fun _ => true) true 23 (.slice a len cap) d p) (hw : (d.weights Tryz.prog 23).all (· ≤ reachBytes) = true) :
    ∃ zs : List Int, zs.length = len ∧ Zs W W.heap.size a zs ∧ (a = none → zs.length = 0) ∧ zs.length ≤ 140737488351232 ∧ zs.length ≤ cap ∧ Zw zs := by
  obtain ⟨fuel, hf⟩ := h
  rcases Go.ChangeShapes.open_ints Tryz.underlying23 Tryz.underlying3 (by kernel_rfl) hf with ⟨hcs, hx⟩ | ⟨x, l, c, zs, hcs, _, hl, hm, hzl, hx, hel, hwf⟩
  · simp [Value.cells] at hcs
    obtain ⟨rfl, rfl, rfl⟩ := hcs
    exact ⟨[], rfl, fun i hi => by simp at hi, by simp, by simp, by simp, fun i hi => by simp at hi⟩
  · simp [Value.cells] at hcs
    obtain ⟨rfl, rfl, rfl⟩ := hcs
    simp only [if_true] at hzl
    have hd : d = .slice (lits .i64 (zs.take len)) (lits .i64 (zs.drop len)) := congrArg Prod.fst hx
    rw [hd] at hw
    have hb : Tryz.prog.bytesOf 3 = 8 := by kernel_rfl
    have hu := Tryz.underlying23
    unfold DataW.weights at hw
    generalize Tryz.prog.underlying 23 = u at hw hu
    subst hu
    simp only [List.all_cons, List.all_append, Bool.and_eq_true, decide_eq_true_eq, hb] at hw
    have hlen : len ≤ 140737488351232 := by
      have h4 := hw.1
      simp [lits] at h4
      have : reachBytes = 140737488351232 := by decide
      omega
    refine ⟨zs.take len, by simp; omega, ?_, by simp, by simp; omega, by simp; omega, ?_⟩
    · intro i hi
      have hi' : i < len := by simp at hi; omega
      have h1 := hel i (by omega)
      obtain ⟨b, off, spot⟩ := x
      have hspot : spot = none := by have h0 := hel 0 (by omega); simpa [Addr.add] using World.cell?_spot h0
      subst hspot
      rw [addr_addT] at h1
      have e : (zs.take len).getD i 0 = zs.getD i 0 := by simp [List.getD_eq_getElem?_getD, List.getElem?_take, hi']
      rw [e]
      exact ⟨b, off, rfl, World.block_lt_of_cell? _ _ h1, h1⟩
    · intro i hi
      have hi' : i < len ∧ i < zs.length := by simp at hi; omega
      have e : (zs.take len).getD i 0 = zs.getD i 0 := by simp [List.getD_eq_getElem?_getD, List.getElem?_take, hi'.1]
      rw [e]
      have h1 : zs.getD i 0 ∈ zs := by
        rw [List.getD_eq_getElem?_getD, List.getElem?_eq_getElem hi'.2]
        exact List.getElem_mem _
      have h2 := hwf _ h1
      simp only [Lit.wf, Bool.and_eq_true, decide_eq_true_eq] at h2
      have h3 : IntKind.i64.min = -9223372036854775808 := by decide
      have h4 : IntKind.i64.max = 9223372036854775807 := by decide
      omega
end Go.Proofs.YtegekaocbalndaaGreatDoor
