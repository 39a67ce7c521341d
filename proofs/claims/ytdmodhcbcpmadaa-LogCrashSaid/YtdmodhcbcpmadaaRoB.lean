/- bytes that came in -/
import Derived.Test.YtdmodhcbcpmadaaRo
import Derived.Test.YtdmodhcbcpmadaaMg1
set_option linter.unusedSimpArgs false
set_option linter.unusedVariables false
namespace Go.Proofs.Ytdmodhcbcpmadaa
open Go.ChangeShapes Go.WideShapes Go.ChangeAt Go.RowKit

/-- a slice of bytes that came in. -/
theorem bytes_of_trod {H : Type} {enc : TypeId × Value → H} {W : World} {a : Option Addr} {len cap : Nat} {d : DataW H} {p : List MemPlace} (h : DataW.Trod enc Try.prog W 0 (fun _ => true) true 29 (.slice a len cap) d p) :
    ∃ l : List UInt8, l.length = len ∧ Bs W W.heap.size a l ∧ (a = none → l = []) := by
  obtain ⟨fuel, hf⟩ := h
  rcases open_ints Try.underlying29 Try.underlying5 (by kernel_rfl) hf with ⟨hcs, _⟩ | ⟨x, l, c, zs, hcs, _, hl, hm, hz, _, hcell, hwz⟩
  · simp [Value.cells] at hcs
    obtain ⟨rfl, rfl, rfl⟩ := hcs
    exact ⟨[], rfl, Bs.nil _ _ _, fun _ => rfl⟩
  · simp [Value.cells] at hcs
    obtain ⟨rfl, rfl, rfl⟩ := hcs
    have hz' : zs.length = cap := by simpa using hz
    have key : ∀ i, i < len → W.cell? (x.add i) = some (.int .u8 (((zs.getD i 0).toNat.toUInt8).toNat : Int)) := by
      intro i hi
      rw [hcell i (by omega)]
      have hw := hwz (zs.getD i 0) (by
        rw [List.getD_eq_getElem?_getD, List.getElem?_eq_getElem (by omega)]; simp)
      have hb : 0 ≤ zs.getD i 0 ∧ zs.getD i 0 ≤ 255 := bounds_u8 hw
      have e : (((zs.getD i 0).toNat.toUInt8).toNat : Int) = zs.getD i 0 := by
        simp only [Nat.toUInt8, UInt8.toNat_ofNat']
        omega
      rw [e]
    refine ⟨(List.range len).map fun i => (zs.getD i 0).toNat.toUInt8, by simp, ?_, fun h => by cases h⟩
    intro j hj
    have hj' : j < len := by simpa using hj
    obtain ⟨b, off, spot⟩ := x
    have hc := key j hj'
    have hc0 := key 0 (by omega)
    have hspot : spot = none := by simpa [Addr.add] using World.cell?_spot hc0
    subst hspot
    have hadd : (⟨b, off, none⟩ : Addr).add j = ⟨b, off + j, none⟩ := by unfold Addr.add; split <;> simp_all
    rw [hadd] at hc
    refine ⟨b, off, rfl, World.block_lt_of_cell? _ _ hc, ?_⟩
    rw [hc]
    simp [List.getD_eq_getElem?_getD, hj']
theorem slice_cap {H : Type} {enc : TypeId × Value → H} {W : World} {a : Option Addr} {len cap : Nat} {d : DataW H} {p : List MemPlace} (h : DataW.Trod enc Try.prog W 0 (fun _ => true) true 29 (.slice a len cap) d p) : len ≤ cap := by
  obtain ⟨fuel, hf⟩ := h
  rcases open_ints Try.underlying29 Try.underlying5 (by kernel_rfl) hf with ⟨hcs, _⟩ | ⟨x, l, c, zs, hcs, _, hl, hm, hz, _, hcell, hwz⟩
  · simp [Value.cells] at hcs
    obtain ⟨rfl, rfl, rfl⟩ := hcs
    exact Nat.le_refl _
  · simp [Value.cells] at hcs
    obtain ⟨rfl, rfl, rfl⟩ := hcs
    exact hl
/-- a slice of bytes that came in, and its weight. -/
theorem bytes_of_cell {H : Type} {enc : TypeId × Value → H} {W : World} {n : Nat} {V : Value} {d : DataW H} {p : List MemPlace} (h : DataW.trod enc Try.prog W 0 (fun _ => true) true n 29 [V] = some (d, p)) (hw : (d.weights Try.prog 29).all (· ≤ reachBytes) = true) :
    ∃ (l : List UInt8) (a : Option Addr) (c : Nat), V = .slice a l.length c ∧ Bs W W.heap.size a l ∧ (a = none → l = []) ∧ l.length ≤ 140737488351232 := by
  rcases open_ints Try.underlying29 Try.underlying5 (by kernel_rfl) h with ⟨hcs, hx⟩ | ⟨x, l, c, zs, hcs, _, hl, hm, hz, hx, hcell, hwz⟩
  · simp at hcs
    subst hcs
    exact ⟨[], none, 0, rfl, Bs.nil _ _ _, fun _ => rfl, by simp⟩
  · simp at hcs
    subst hcs
    obtain ⟨l', h1, h2, h3⟩ := bytes_of_trod (enc := enc) (W := W) (a := some x) (len := l) (cap := c) ⟨n, by simpa [Value.cells] using h⟩
    subst h1
    refine ⟨l', _, _, rfl, h2, h3, ?_⟩
    have hd : d = .slice (lits .u8 (zs.take l'.length)) (lits .u8 (zs.drop l'.length)) := congrArg Prod.fst hx
    rw [hd] at hw
    have hb : Try.prog.bytesOf 5 = 1 := by kernel_rfl
    have hu := Try.underlying29
    unfold DataW.weights at hw
    generalize Try.prog.underlying 29 = u at hw hu
    subst hu
    simp only [List.all_cons, Bool.and_eq_true, decide_eq_true_eq, hb, Nat.mul_one] at hw
    have h4 := hw.1
    simp [lits] at h4
    have hz' : zs.length = c := by simpa using hz
    have : reachBytes = 140737488351232 := by decide
    omega
end Go.Proofs.Ytdmodhcbcpmadaa
